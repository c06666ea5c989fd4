/- Names for the numbers of the functions and types of this place; nothing else is proved here. -/
import Derived.Test.YtimigbgpldjefaaEc
import Derived.Test.YtimigbgpldjefaaProg
set_option linter.all false
namespace Go.Proofs.Ytimigbgpldjefaa.VE
open Go
abbrev n_l_FnExactSpinEntry : FuncId := 3
theorem hf_l_FnExactSpinEntry : Try.prog.funcs[3]? = some Try.f3 := Try.func3
theorem hc_l_FnExactSpinEntry : ∀ us w, (callFunc 3 us).run Try.prog w = .ok (.enter 3 us) w := Try.call3
abbrev n_l_FnExactSpinTable : FuncId := 4
theorem hf_l_FnExactSpinTable : Try.prog.funcs[4]? = some Try.f4 := Try.func4
theorem hc_l_FnExactSpinTable : ∀ us w, (callFunc 4 us).run Try.prog w = .ok (.enter 4 us) w := Try.call4
abbrev n_l_FnExactSpinRank : FuncId := 5
theorem hf_l_FnExactSpinRank : Try.prog.funcs[5]? = some Try.f5 := Try.func5
theorem hc_l_FnExactSpinRank : ∀ us w, (callFunc 5 us).run Try.prog w = .ok (.enter 5 us) w := Try.call5
abbrev n_l_FnExactSpinBlock : FuncId := 6
theorem hf_l_FnExactSpinBlock : Try.prog.funcs[6]? = some Try.f6 := Try.func6
theorem hc_l_FnExactSpinBlock : ∀ us w, (callFunc 6 us).run Try.prog w = .ok (.enter 6 us) w := Try.call6
abbrev n_l_FnExactPlainTrace : FuncId := 7
theorem hf_l_FnExactPlainTrace : Try.prog.funcs[7]? = some Try.f7 := Try.func7
theorem hc_l_FnExactPlainTrace : ∀ us w, (callFunc 7 us).run Try.prog w = .ok (.enter 7 us) w := Try.call7
abbrev n_l_FnExactWeightedTrace : FuncId := 8
theorem hf_l_FnExactWeightedTrace : Try.prog.funcs[8]? = some Try.f8 := Try.func8
theorem hc_l_FnExactWeightedTrace : ∀ us w, (callFunc 8 us).run Try.prog w = .ok (.enter 8 us) w := Try.call8
abbrev n_l_FnExactApplyToSpins : FuncId := 9
theorem hf_l_FnExactApplyToSpins : Try.prog.funcs[9]? = some Try.f9 := Try.func9
theorem hc_l_FnExactApplyToSpins : ∀ us w, (callFunc 9 us).run Try.prog w = .ok (.enter 9 us) w := Try.call9
abbrev n_l_FnExactActOnHalf : FuncId := 10
theorem hf_l_FnExactActOnHalf : Try.prog.funcs[10]? = some Try.f10 := Try.func10
theorem hc_l_FnExactActOnHalf : ∀ us w, (callFunc 10 us).run Try.prog w = .ok (.enter 10 us) w := Try.call10
abbrev n_l_FnExactDescentsOf : FuncId := 11
theorem hf_l_FnExactDescentsOf : Try.prog.funcs[11]? = some Try.f11 := Try.func11
theorem hc_l_FnExactDescentsOf : ∀ us w, (callFunc 11 us).run Try.prog w = .ok (.enter 11 us) w := Try.call11
abbrev n_l_FnExactValueOfWord : FuncId := 12
theorem hf_l_FnExactValueOfWord : Try.prog.funcs[12]? = some Try.f12 := Try.func12
theorem hc_l_FnExactValueOfWord : ∀ us w, (callFunc 12 us).run Try.prog w = .ok (.enter 12 us) w := Try.call12
abbrev n_s_SpinEntry : FuncId := 13
theorem hf_s_SpinEntry : Try.prog.funcs[13]? = some Try.f13 := Try.func13
theorem hc_s_SpinEntry : ∀ us w, (callFunc 13 us).run Try.prog w = .ok (.enter 13 us) w := Try.call13
abbrev n_l_toDiagram : FuncId := 14
theorem hf_l_toDiagram : Try.prog.funcs[14]? = some Try.f14 := Try.func14
theorem hc_l_toDiagram : ∀ us w, (callFunc 14 us).run Try.prog w = .ok (.enter 14 us) w := Try.call14
abbrev n_i_SpinEntry : FuncId := 15
theorem hf_i_SpinEntry : Try.prog.funcs[15]? = some Try.f15 := Try.func15
theorem hc_i_SpinEntry : ∀ us w, (callFunc 15 us).run Try.prog w = .ok (.enter 15 us) w := Try.call15
abbrev n_s_SpinTable : FuncId := 16
theorem hf_s_SpinTable : Try.prog.funcs[16]? = some Try.f16 := Try.func16
theorem hc_s_SpinTable : ∀ us w, (callFunc 16 us).run Try.prog w = .ok (.enter 16 us) w := Try.call16
abbrev n_i_SpinTable : FuncId := 17
theorem hf_i_SpinTable : Try.prog.funcs[17]? = some Try.f17 := Try.func17
theorem hc_i_SpinTable : ∀ us w, (callFunc 17 us).run Try.prog w = .ok (.enter 17 us) w := Try.call17
abbrev n_l_eqInt64SS : FuncId := 18
theorem hf_l_eqInt64SS : Try.prog.funcs[18]? = some Try.f18 := Try.func18
theorem hc_l_eqInt64SS : ∀ us w, (callFunc 18 us).run Try.prog w = .ok (.enter 18 us) w := Try.call18
abbrev n_l_markInt64SS : FuncId := 19
theorem hf_l_markInt64SS : Try.prog.funcs[19]? = some Try.f19 := Try.func19
theorem hc_l_markInt64SS : ∀ us w, (callFunc 19 us).run Try.prog w = .ok (.enter 19 us) w := Try.call19
abbrev n_l_heldInt64SS : FuncId := 20
theorem hf_l_heldInt64SS : Try.prog.funcs[20]? = some Try.f20 := Try.func20
theorem hc_l_heldInt64SS : ∀ us w, (callFunc 20 us).run Try.prog w = .ok (.enter 20 us) w := Try.call20
abbrev n_s_SpinRank : FuncId := 21
theorem hf_s_SpinRank : Try.prog.funcs[21]? = some Try.f21 := Try.func21
theorem hc_s_SpinRank : ∀ us w, (callFunc 21 us).run Try.prog w = .ok (.enter 21 us) w := Try.call21
abbrev n_i_SpinRank : FuncId := 22
theorem hf_i_SpinRank : Try.prog.funcs[22]? = some Try.f22 := Try.func22
theorem hc_i_SpinRank : ∀ us w, (callFunc 22 us).run Try.prog w = .ok (.enter 22 us) w := Try.call22
abbrev n_s_SpinBlock : FuncId := 23
theorem hf_s_SpinBlock : Try.prog.funcs[23]? = some Try.f23 := Try.func23
theorem hc_s_SpinBlock : ∀ us w, (callFunc 23 us).run Try.prog w = .ok (.enter 23 us) w := Try.call23
abbrev n_i_SpinBlock : FuncId := 24
theorem hf_i_SpinBlock : Try.prog.funcs[24]? = some Try.f24 := Try.func24
theorem hc_i_SpinBlock : ∀ us w, (callFunc 24 us).run Try.prog w = .ok (.enter 24 us) w := Try.call24
abbrev n_s_PlainTrace : FuncId := 25
theorem hf_s_PlainTrace : Try.prog.funcs[25]? = some Try.f25 := Try.func25
theorem hc_s_PlainTrace : ∀ us w, (callFunc 25 us).run Try.prog w = .ok (.enter 25 us) w := Try.call25
abbrev n_i_PlainTrace : FuncId := 26
theorem hf_i_PlainTrace : Try.prog.funcs[26]? = some Try.f26 := Try.func26
theorem hc_i_PlainTrace : ∀ us w, (callFunc 26 us).run Try.prog w = .ok (.enter 26 us) w := Try.call26
abbrev n_s_WeightedTrace : FuncId := 27
theorem hf_s_WeightedTrace : Try.prog.funcs[27]? = some Try.f27 := Try.func27
theorem hc_s_WeightedTrace : ∀ us w, (callFunc 27 us).run Try.prog w = .ok (.enter 27 us) w := Try.call27
abbrev n_i_WeightedTrace : FuncId := 28
theorem hf_i_WeightedTrace : Try.prog.funcs[28]? = some Try.f28 := Try.func28
theorem hc_i_WeightedTrace : ∀ us w, (callFunc 28 us).run Try.prog w = .ok (.enter 28 us) w := Try.call28
abbrev n_s_ApplyToSpins : FuncId := 29
theorem hf_s_ApplyToSpins : Try.prog.funcs[29]? = some Try.f29 := Try.func29
theorem hc_s_ApplyToSpins : ∀ us w, (callFunc 29 us).run Try.prog w = .ok (.enter 29 us) w := Try.call29
abbrev n_l_toInt64S : FuncId := 30
theorem hf_l_toInt64S : Try.prog.funcs[30]? = some Try.f30 := Try.func30
theorem hc_l_toInt64S : ∀ us w, (callFunc 30 us).run Try.prog w = .ok (.enter 30 us) w := Try.call30
abbrev n_i_ApplyToSpins : FuncId := 31
theorem hf_i_ApplyToSpins : Try.prog.funcs[31]? = some Try.f31 := Try.func31
theorem hc_i_ApplyToSpins : ∀ us w, (callFunc 31 us).run Try.prog w = .ok (.enter 31 us) w := Try.call31
abbrev n_l_eqInt64S : FuncId := 32
theorem hf_l_eqInt64S : Try.prog.funcs[32]? = some Try.f32 := Try.func32
theorem hc_l_eqInt64S : ∀ us w, (callFunc 32 us).run Try.prog w = .ok (.enter 32 us) w := Try.call32
abbrev n_l_markInt64S : FuncId := 33
theorem hf_l_markInt64S : Try.prog.funcs[33]? = some Try.f33 := Try.func33
theorem hc_l_markInt64S : ∀ us w, (callFunc 33 us).run Try.prog w = .ok (.enter 33 us) w := Try.call33
abbrev n_l_heldInt64S : FuncId := 34
theorem hf_l_heldInt64S : Try.prog.funcs[34]? = some Try.f34 := Try.func34
theorem hc_l_heldInt64S : ∀ us w, (callFunc 34 us).run Try.prog w = .ok (.enter 34 us) w := Try.call34
abbrev n_s_ActOnHalf : FuncId := 35
theorem hf_s_ActOnHalf : Try.prog.funcs[35]? = some Try.f35 := Try.func35
theorem hc_s_ActOnHalf : ∀ us w, (callFunc 35 us).run Try.prog w = .ok (.enter 35 us) w := Try.call35
abbrev n_i_ActOnHalf : FuncId := 36
theorem hf_i_ActOnHalf : Try.prog.funcs[36]? = some Try.f36 := Try.func36
theorem hc_i_ActOnHalf : ∀ us w, (callFunc 36 us).run Try.prog w = .ok (.enter 36 us) w := Try.call36
abbrev n_s_DescentsOf : FuncId := 37
theorem hf_s_DescentsOf : Try.prog.funcs[37]? = some Try.f37 := Try.func37
theorem hc_s_DescentsOf : ∀ us w, (callFunc 37 us).run Try.prog w = .ok (.enter 37 us) w := Try.call37
abbrev n_i_DescentsOf : FuncId := 38
theorem hf_i_DescentsOf : Try.prog.funcs[38]? = some Try.f38 := Try.func38
theorem hc_i_DescentsOf : ∀ us w, (callFunc 38 us).run Try.prog w = .ok (.enter 38 us) w := Try.call38
abbrev n_s_ValueOfWord : FuncId := 39
theorem hf_s_ValueOfWord : Try.prog.funcs[39]? = some Try.f39 := Try.func39
theorem hc_s_ValueOfWord : ∀ us w, (callFunc 39 us).run Try.prog w = .ok (.enter 39 us) w := Try.call39
abbrev n_i_ValueOfWord : FuncId := 40
theorem hf_i_ValueOfWord : Try.prog.funcs[40]? = some Try.f40 := Try.func40
theorem hc_i_ValueOfWord : ∀ us w, (callFunc 40 us).run Try.prog w = .ok (.enter 40 us) w := Try.call40
abbrev n_l_eqDiagram : FuncId := 41
theorem hf_l_eqDiagram : Try.prog.funcs[41]? = some Try.f41 := Try.func41
theorem hc_l_eqDiagram : ∀ us w, (callFunc 41 us).run Try.prog w = .ok (.enter 41 us) w := Try.call41
abbrev n_s_l10Code : FuncId := 42
theorem hf_s_l10Code : Try.prog.funcs[42]? = some Try.f42 := Try.func42
theorem hc_s_l10Code : ∀ us w, (callFunc 42 us).run Try.prog w = .ok (.enter 42 us) w := Try.call42
abbrev n_s_l01In : FuncId := 43
theorem hf_s_l01In : Try.prog.funcs[43]? = some Try.f43 := Try.func43
theorem hc_s_l01In : ∀ us w, (callFunc 43 us).run Try.prog w = .ok (.enter 43 us) w := Try.call43
abbrev n_s_l10Entry : FuncId := 44
theorem hf_s_l10Entry : Try.prog.funcs[44]? = some Try.f44 := Try.func44
theorem hc_s_l10Entry : ∀ us w, (callFunc 44 us).run Try.prog w = .ok (.enter 44 us) w := Try.call44
abbrev n_s_l01Inverse : FuncId := 45
theorem hf_s_l01Inverse : Try.prog.funcs[45]? = some Try.f45 := Try.func45
theorem hc_s_l01Inverse : ∀ us w, (callFunc 45 us).run Try.prog w = .ok (.enter 45 us) w := Try.call45
abbrev n_l_toByteA16 : FuncId := 46
theorem hf_l_toByteA16 : Try.prog.funcs[46]? = some Try.f46 := Try.func46
theorem hc_l_toByteA16 : ∀ us w, (callFunc 46 us).run Try.prog w = .ok (.enter 46 us) w := Try.call46
abbrev n_i_spinsFault : FuncId := 47
theorem hf_i_spinsFault : Try.prog.funcs[47]? = some Try.f47 := Try.func47
theorem hc_i_spinsFault : ∀ us w, (callFunc 47 us).run Try.prog w = .ok (.enter 47 us) w := Try.call47
abbrev n_i_in : FuncId := 48
theorem hf_i_in : Try.prog.funcs[48]? = some Try.f48 := Try.func48
theorem hc_i_in : ∀ us w, (callFunc 48 us).run Try.prog w = .ok (.enter 48 us) w := Try.call48
abbrev n_i_Diagram_words : FuncId := 49
theorem hf_i_Diagram_words : Try.prog.funcs[49]? = some Try.f49 := Try.func49
theorem hc_i_Diagram_words : ∀ us w, (callFunc 49 us).run Try.prog w = .ok (.enter 49 us) w := Try.call49
abbrev n_i_spins_entry : FuncId := 50
theorem hf_i_spins_entry : Try.prog.funcs[50]? = some Try.f50 := Try.func50
theorem hc_i_spins_entry : ∀ us w, (callFunc 50 us).run Try.prog w = .ok (.enter 50 us) w := Try.call50
abbrev n_s_l10Table : FuncId := 51
theorem hf_s_l10Table : Try.prog.funcs[51]? = some Try.f51 := Try.func51
theorem hc_s_l10Table : ∀ us w, (callFunc 51 us).run Try.prog w = .ok (.enter 51 us) w := Try.call51
abbrev n_i_spins_table : FuncId := 52
theorem hf_i_spins_table : Try.prog.funcs[52]? = some Try.f52 := Try.func52
theorem hc_i_spins_table : ∀ us w, (callFunc 52 us).run Try.prog w = .ok (.enter 52 us) w := Try.call52
abbrev n_i_anyWord : FuncId := 53
theorem hf_i_anyWord : Try.prog.funcs[53]? = some Try.f53 := Try.func53
theorem hc_i_anyWord : ∀ us w, (callFunc 53 us).run Try.prog w = .ok (.enter 53 us) w := Try.call53
abbrev n_s_l04Echelon : FuncId := 54
theorem hf_s_l04Echelon : Try.prog.funcs[54]? = some Try.f54 := Try.func54
theorem hc_s_l04Echelon : ∀ us w, (callFunc 54 us).run Try.prog w = .ok (.enter 54 us) w := Try.call54
abbrev n_i_echelon : FuncId := 55
theorem hf_i_echelon : Try.prog.funcs[55]? = some Try.f55 := Try.func55
theorem hc_i_echelon : ∀ us w, (callFunc 55 us).run Try.prog w = .ok (.enter 55 us) w := Try.call55
abbrev n_s_l10Ones : FuncId := 56
theorem hf_s_l10Ones : Try.prog.funcs[56]? = some Try.f56 := Try.func56
theorem hc_s_l10Ones : ∀ us w, (callFunc 56 us).run Try.prog w = .ok (.enter 56 us) w := Try.call56
abbrev n_i_SpinBlock_1 : FuncId := 57
theorem hf_i_SpinBlock_1 : Try.prog.funcs[57]? = some Try.f57 := Try.func57
theorem hc_i_SpinBlock_1 : ∀ us w, (callFunc 57 us).run Try.prog w = .ok (.enter 57 us) w := Try.call57
abbrev n_i_ones : FuncId := 58
theorem hf_i_ones : Try.prog.funcs[58]? = some Try.f58 := Try.func58
theorem hc_i_ones : ∀ us w, (callFunc 58 us).run Try.prog w = .ok (.enter 58 us) w := Try.call58
abbrev n_s_l10Trace : FuncId := 59
theorem hf_s_l10Trace : Try.prog.funcs[59]? = some Try.f59 := Try.func59
theorem hc_s_l10Trace : ∀ us w, (callFunc 59 us).run Try.prog w = .ok (.enter 59 us) w := Try.call59
abbrev n_i_spins_diagonal : FuncId := 60
theorem hf_i_spins_diagonal : Try.prog.funcs[60]? = some Try.f60 := Try.func60
theorem hc_i_spins_diagonal : ∀ us w, (callFunc 60 us).run Try.prog w = .ok (.enter 60 us) w := Try.call60
abbrev n_i_PlainTrace_1 : FuncId := 61
theorem hf_i_PlainTrace_1 : Try.prog.funcs[61]? = some Try.f61 := Try.func61
theorem hc_i_PlainTrace_1 : ∀ us w, (callFunc 61 us).run Try.prog w = .ok (.enter 61 us) w := Try.call61
abbrev n_i_WeightedTrace_1 : FuncId := 62
theorem hf_i_WeightedTrace_1 : Try.prog.funcs[62]? = some Try.f62 := Try.func62
theorem hc_i_WeightedTrace_1 : ∀ us w, (callFunc 62 us).run Try.prog w = .ok (.enter 62 us) w := Try.call62
abbrev n_i_power : FuncId := 63
theorem hf_i_power : Try.prog.funcs[63]? = some Try.f63 := Try.func63
theorem hc_i_power : ∀ us w, (callFunc 63 us).run Try.prog w = .ok (.enter 63 us) w := Try.call63
abbrev n_s_l01Is : FuncId := 64
theorem hf_s_l01Is : Try.prog.funcs[64]? = some Try.f64 := Try.func64
theorem hc_s_l01Is : ∀ us w, (callFunc 64 us).run Try.prog w = .ok (.enter 64 us) w := Try.call64
abbrev n_s_l01Prime : FuncId := 65
theorem hf_s_l01Prime : Try.prog.funcs[65]? = some Try.f65 := Try.func65
theorem hc_s_l01Prime : ∀ us w, (callFunc 65 us).run Try.prog w = .ok (.enter 65 us) w := Try.call65
abbrev n_s_l10Numbers : FuncId := 66
theorem hf_s_l10Numbers : Try.prog.funcs[66]? = some Try.f66 := Try.func66
theorem hc_s_l10Numbers : ∀ us w, (callFunc 66 us).run Try.prog w = .ok (.enter 66 us) w := Try.call66
abbrev n_i_invalid : FuncId := 67
theorem hf_i_invalid : Try.prog.funcs[67]? = some Try.f67 := Try.func67
theorem hc_i_invalid : ∀ us w, (callFunc 67 us).run Try.prog w = .ok (.enter 67 us) w := Try.call67
abbrev n_i_isPrime : FuncId := 68
theorem hf_i_isPrime : Try.prog.funcs[68]? = some Try.f68 := Try.func68
theorem hc_i_isPrime : ∀ us w, (callFunc 68 us).run Try.prog w = .ok (.enter 68 us) w := Try.call68
abbrev n_g_ContainsFunc_int64 : FuncId := 69
theorem hf_g_ContainsFunc_int64 : Try.prog.funcs[69]? = some Try.f69 := Try.func69
theorem hc_g_ContainsFunc_int64 : ∀ us w, (callFunc 69 us).run Try.prog w = .ok (.enter 69 us) w := Try.call69
abbrev n_i_ApplyToSpins_1 : FuncId := 70
theorem hf_i_ApplyToSpins_1 : Try.prog.funcs[70]? = some Try.f70 := Try.func70
theorem hc_i_ApplyToSpins_1 : ∀ us w, (callFunc 70 us).run Try.prog w = .ok (.enter 70 us) w := Try.call70
abbrev n_i_spinsOf : FuncId := 71
theorem hf_i_spinsOf : Try.prog.funcs[71]? = some Try.f71 := Try.func71
theorem hc_i_spinsOf : ∀ us w, (callFunc 71 us).run Try.prog w = .ok (.enter 71 us) w := Try.call71
abbrev n_s_l04Is : FuncId := 72
theorem hf_s_l04Is : Try.prog.funcs[72]? = some Try.f72 := Try.func72
theorem hc_s_l04Is : ∀ us w, (callFunc 72 us).run Try.prog w = .ok (.enter 72 us) w := Try.call72
abbrev n_s_l04Act : FuncId := 73
theorem hf_s_l04Act : Try.prog.funcs[73]? = some Try.f73 := Try.func73
theorem hc_s_l04Act : ∀ us w, (callFunc 73 us).run Try.prog w = .ok (.enter 73 us) w := Try.call73
abbrev n_i_IsHalf : FuncId := 74
theorem hf_i_IsHalf : Try.prog.funcs[74]? = some Try.f74 := Try.func74
theorem hc_i_IsHalf : ∀ us w, (callFunc 74 us).run Try.prog w = .ok (.enter 74 us) w := Try.call74
abbrev n_i_Diagram_n : FuncId := 75
theorem hf_i_Diagram_n : Try.prog.funcs[75]? = some Try.f75 := Try.func75
theorem hc_i_Diagram_n : ∀ us w, (callFunc 75 us).run Try.prog w = .ok (.enter 75 us) w := Try.call75
abbrev n_i_acted : FuncId := 76
theorem hf_i_acted : Try.prog.funcs[76]? = some Try.f76 := Try.func76
theorem hc_i_acted : ∀ us w, (callFunc 76 us).run Try.prog w = .ok (.enter 76 us) w := Try.call76
abbrev n_s_l03Is : FuncId := 77
theorem hf_s_l03Is : Try.prog.funcs[77]? = some Try.f77 := Try.func77
theorem hc_s_l03Is : ∀ us w, (callFunc 77 us).run Try.prog w = .ok (.enter 77 us) w := Try.call77
abbrev n_s_l03Value : FuncId := 78
theorem hf_s_l03Value : Try.prog.funcs[78]? = some Try.f78 := Try.func78
theorem hc_s_l03Value : ∀ us w, (callFunc 78 us).run Try.prog w = .ok (.enter 78 us) w := Try.call78
abbrev n_i_wordOk : FuncId := 79
theorem hf_i_wordOk : Try.prog.funcs[79]? = some Try.f79 := Try.func79
theorem hc_i_wordOk : ∀ us w, (callFunc 79 us).run Try.prog w = .ok (.enter 79 us) w := Try.call79
abbrev n_i_value : FuncId := 80
theorem hf_i_value : Try.prog.funcs[80]? = some Try.f80 := Try.func80
theorem hc_i_value : ∀ us w, (callFunc 80 us).run Try.prog w = .ok (.enter 80 us) w := Try.call80
abbrev n_l_eqByteA16 : FuncId := 81
theorem hf_l_eqByteA16 : Try.prog.funcs[81]? = some Try.f81 := Try.func81
theorem hc_l_eqByteA16 : ∀ us w, (callFunc 81 us).run Try.prog w = .ok (.enter 81 us) w := Try.call81
abbrev n_s_l10Letter : FuncId := 82
theorem hf_s_l10Letter : Try.prog.funcs[82]? = some Try.f82 := Try.func82
theorem hc_s_l10Letter : ∀ us w, (callFunc 82 us).run Try.prog w = .ok (.enter 82 us) w := Try.call82
abbrev n_s_l01Mod : FuncId := 83
theorem hf_s_l01Mod : Try.prog.funcs[83]? = some Try.f83 := Try.func83
theorem hc_s_l01Mod : ∀ us w, (callFunc 83 us).run Try.prog w = .ok (.enter 83 us) w := Try.call83
abbrev n_i_letter : FuncId := 84
theorem hf_i_letter : Try.prog.funcs[84]? = some Try.f84 := Try.func84
theorem hc_i_letter : ∀ us w, (callFunc 84 us).run Try.prog w = .ok (.enter 84 us) w := Try.call84
abbrev n_i_rest : FuncId := 85
theorem hf_i_rest : Try.prog.funcs[85]? = some Try.f85 := Try.func85
theorem hc_i_rest : ∀ us w, (callFunc 85 us).run Try.prog w = .ok (.enter 85 us) w := Try.call85
abbrev n_g_IndexFunc_s_int64 : FuncId := 86
theorem hf_g_IndexFunc_s_int64 : Try.prog.funcs[86]? = some Try.f86 := Try.func86
theorem hc_g_IndexFunc_s_int64 : ∀ us w, (callFunc 86 us).run Try.prog w = .ok (.enter 86 us) w := Try.call86
abbrev n_i_echelon_1 : FuncId := 87
theorem hf_i_echelon_1 : Try.prog.funcs[87]? = some Try.f87 := Try.func87
theorem hc_i_echelon_1 : ∀ us w, (callFunc 87 us).run Try.prog w = .ok (.enter 87 us) w := Try.call87
abbrev n_i_inverse : FuncId := 88
theorem hf_i_inverse : Try.prog.funcs[88]? = some Try.f88 := Try.func88
theorem hc_i_inverse : ∀ us w, (callFunc 88 us).run Try.prog w = .ok (.enter 88 us) w := Try.call88
abbrev n_s_l01Ends : FuncId := 89
theorem hf_s_l01Ends : Try.prog.funcs[89]? = some Try.f89 := Try.func89
theorem hc_s_l01Ends : ∀ us w, (callFunc 89 us).run Try.prog w = .ok (.enter 89 us) w := Try.call89
abbrev n_g_ContainsFunc_Diagram : FuncId := 90
theorem hf_g_ContainsFunc_Diagram : Try.prog.funcs[90]? = some Try.f90 := Try.func90
theorem hc_g_ContainsFunc_Diagram : ∀ us w, (callFunc 90 us).run Try.prog w = .ok (.enter 90 us) w := Try.call90
abbrev n_i_invalid_1 : FuncId := 91
theorem hf_i_invalid_1 : Try.prog.funcs[91]? = some Try.f91 := Try.func91
theorem hc_i_invalid_1 : ∀ us w, (callFunc 91 us).run Try.prog w = .ok (.enter 91 us) w := Try.call91
abbrev n_i_IsDiagram : FuncId := 92
theorem hf_i_IsDiagram : Try.prog.funcs[92]? = some Try.f92 := Try.func92
theorem hc_i_IsDiagram : ∀ us w, (callFunc 92 us).run Try.prog w = .ok (.enter 92 us) w := Try.call92
abbrev n_g_IndexFunc_int64 : FuncId := 93
theorem hf_g_IndexFunc_int64 : Try.prog.funcs[93]? = some Try.f93 := Try.func93
theorem hc_g_IndexFunc_int64 : ∀ us w, (callFunc 93 us).run Try.prog w = .ok (.enter 93 us) w := Try.call93
abbrev n_i_numberOk : FuncId := 94
theorem hf_i_numberOk : Try.prog.funcs[94]? = some Try.f94 := Try.func94
theorem hc_i_numberOk : ∀ us w, (callFunc 94 us).run Try.prog w = .ok (.enter 94 us) w := Try.call94
abbrev n_s_l04Arcs : FuncId := 95
theorem hf_s_l04Arcs : Try.prog.funcs[95]? = some Try.f95 := Try.func95
theorem hc_s_l04Arcs : ∀ us w, (callFunc 95 us).run Try.prog w = .ok (.enter 95 us) w := Try.call95
abbrev n_s_l01Times : FuncId := 96
theorem hf_s_l01Times : Try.prog.funcs[96]? = some Try.f96 := Try.func96
theorem hc_s_l01Times : ∀ us w, (callFunc 96 us).run Try.prog w = .ok (.enter 96 us) w := Try.call96
abbrev n_s_l04Diagram : FuncId := 97
theorem hf_s_l04Diagram : Try.prog.funcs[97]? = some Try.f97 := Try.func97
theorem hc_s_l04Diagram : ∀ us w, (callFunc 97 us).run Try.prog w = .ok (.enter 97 us) w := Try.call97
abbrev n_s_l04Half : FuncId := 98
theorem hf_s_l04Half : Try.prog.funcs[98]? = some Try.f98 := Try.func98
theorem hc_s_l04Half : ∀ us w, (callFunc 98 us).run Try.prog w = .ok (.enter 98 us) w := Try.call98
abbrev n_s_l04Open : FuncId := 99
theorem hf_s_l04Open : Try.prog.funcs[99]? = some Try.f99 := Try.func99
theorem hc_s_l04Open : ∀ us w, (callFunc 99 us).run Try.prog w = .ok (.enter 99 us) w := Try.call99
abbrev n_i_arcs : FuncId := 100
theorem hf_i_arcs : Try.prog.funcs[100]? = some Try.f100 := Try.func100
theorem hc_i_arcs : ∀ us w, (callFunc 100 us).run Try.prog w = .ok (.enter 100 us) w := Try.call100
abbrev n_i_times : FuncId := 101
theorem hf_i_times : Try.prog.funcs[101]? = some Try.f101 := Try.func101
theorem hc_i_times : ∀ us w, (callFunc 101 us).run Try.prog w = .ok (.enter 101 us) w := Try.call101
abbrev n_i_ofHalves : FuncId := 102
theorem hf_i_ofHalves : Try.prog.funcs[102]? = some Try.f102 := Try.func102
theorem hc_i_ofHalves : ∀ us w, (callFunc 102 us).run Try.prog w = .ok (.enter 102 us) w := Try.call102
abbrev n_i_Diagram_halfOf : FuncId := 103
theorem hf_i_Diagram_halfOf : Try.prog.funcs[103]? = some Try.f103 := Try.func103
theorem hc_i_Diagram_halfOf : ∀ us w, (callFunc 103 us).run Try.prog w = .ok (.enter 103 us) w := Try.call103
abbrev n_i_openPoints : FuncId := 104
theorem hf_i_openPoints : Try.prog.funcs[104]? = some Try.f104 := Try.func104
theorem hc_i_openPoints : ∀ us w, (callFunc 104 us).run Try.prog w = .ok (.enter 104 us) w := Try.call104
abbrev n_s_l01One : FuncId := 105
theorem hf_s_l01One : Try.prog.funcs[105]? = some Try.f105 := Try.func105
theorem hc_s_l01One : ∀ us w, (callFunc 105 us).run Try.prog w = .ok (.enter 105 us) w := Try.call105
abbrev n_s_l01Cup : FuncId := 106
theorem hf_s_l01Cup : Try.prog.funcs[106]? = some Try.f106 := Try.func106
theorem hc_s_l01Cup : ∀ us w, (callFunc 106 us).run Try.prog w = .ok (.enter 106 us) w := Try.call106
abbrev n_i_wordOk_1 : FuncId := 107
theorem hf_i_wordOk_1 : Try.prog.funcs[107]? = some Try.f107 := Try.func107
theorem hc_i_wordOk_1 : ∀ us w, (callFunc 107 us).run Try.prog w = .ok (.enter 107 us) w := Try.call107
abbrev n_i_unit : FuncId := 108
theorem hf_i_unit : Try.prog.funcs[108]? = some Try.f108 := Try.func108
theorem hc_i_unit : ∀ us w, (callFunc 108 us).run Try.prog w = .ok (.enter 108 us) w := Try.call108
abbrev n_i_generator : FuncId := 109
theorem hf_i_generator : Try.prog.funcs[109]? = some Try.f109 := Try.func109
theorem hc_i_generator : ∀ us w, (callFunc 109 us).run Try.prog w = .ok (.enter 109 us) w := Try.call109
abbrev n_s_l01Place : FuncId := 110
theorem hf_s_l01Place : Try.prog.funcs[110]? = some Try.f110 := Try.func110
theorem hc_s_l01Place : ∀ us w, (callFunc 110 us).run Try.prog w = .ok (.enter 110 us) w := Try.call110
abbrev n_g_IndexFunc_Diagram : FuncId := 111
theorem hf_g_IndexFunc_Diagram : Try.prog.funcs[111]? = some Try.f111 := Try.func111
theorem hc_g_IndexFunc_Diagram : ∀ us w, (callFunc 111 us).run Try.prog w = .ok (.enter 111 us) w := Try.call111
abbrev n_i_read : FuncId := 112
theorem hf_i_read : Try.prog.funcs[112]? = some Try.f112 := Try.func112
theorem hc_i_read : ∀ us w, (callFunc 112 us).run Try.prog w = .ok (.enter 112 us) w := Try.call112
abbrev n_i_Diagram_text : FuncId := 113
theorem hf_i_Diagram_text : Try.prog.funcs[113]? = some Try.f113 := Try.func113
theorem hc_i_Diagram_text : ∀ us w, (callFunc 113 us).run Try.prog w = .ok (.enter 113 us) w := Try.call113
abbrev n_s_l01Follow : FuncId := 114
theorem hf_s_l01Follow : Try.prog.funcs[114]? = some Try.f114 := Try.func114
theorem hc_s_l01Follow : ∀ us w, (callFunc 114 us).run Try.prog w = .ok (.enter 114 us) w := Try.call114
abbrev n_i_product : FuncId := 115
theorem hf_i_product : Try.prog.funcs[115]? = some Try.f115 := Try.func115
theorem hc_i_product : ∀ us w, (callFunc 115 us).run Try.prog w = .ok (.enter 115 us) w := Try.call115
abbrev n_i_times_1 : FuncId := 116
theorem hf_i_times_1 : Try.prog.funcs[116]? = some Try.f116 := Try.func116
theorem hc_i_times_1 : ∀ us w, (callFunc 116 us).run Try.prog w = .ok (.enter 116 us) w := Try.call116
abbrev n_i_times_2 : FuncId := 117
theorem hf_i_times_2 : Try.prog.funcs[117]? = some Try.f117 := Try.func117
theorem hc_i_times_2 : ∀ us w, (callFunc 117 us).run Try.prog w = .ok (.enter 117 us) w := Try.call117
abbrev n_i_times_3 : FuncId := 118
theorem hf_i_times_3 : Try.prog.funcs[118]? = some Try.f118 := Try.func118
theorem hc_i_times_3 : ∀ us w, (callFunc 118 us).run Try.prog w = .ok (.enter 118 us) w := Try.call118
abbrev n_i_Diagram_join : FuncId := 119
theorem hf_i_Diagram_join : Try.prog.funcs[119]? = some Try.f119 := Try.func119
theorem hc_i_Diagram_join : ∀ us w, (callFunc 119 us).run Try.prog w = .ok (.enter 119 us) w := Try.call119
abbrev n_s_l01Join : FuncId := 120
theorem hf_s_l01Join : Try.prog.funcs[120]? = some Try.f120 := Try.func120
theorem hc_s_l01Join : ∀ us w, (callFunc 120 us).run Try.prog w = .ok (.enter 120 us) w := Try.call120
abbrev n_i_partners : FuncId := 121
theorem hf_i_partners : Try.prog.funcs[121]? = some Try.f121 := Try.func121
theorem hc_i_partners : ∀ us w, (callFunc 121 us).run Try.prog w = .ok (.enter 121 us) w := Try.call121
abbrev n_i_joined : FuncId := 122
theorem hf_i_joined : Try.prog.funcs[122]? = some Try.f122 := Try.func122
theorem hc_i_joined : ∀ us w, (callFunc 122 us).run Try.prog w = .ok (.enter 122 us) w := Try.call122
abbrev n_i_placeOf : FuncId := 123
theorem hf_i_placeOf : Try.prog.funcs[123]? = some Try.f123 := Try.func123
theorem hc_i_placeOf : ∀ us w, (callFunc 123 us).run Try.prog w = .ok (.enter 123 us) w := Try.call123
abbrev n_i_stack_follow : FuncId := 124
theorem hf_i_stack_follow : Try.prog.funcs[124]? = some Try.f124 := Try.func124
theorem hc_i_stack_follow : ∀ us w, (callFunc 124 us).run Try.prog w = .ok (.enter 124 us) w := Try.call124
abbrev T_f_ : TypeId := 1
abbrev T_int64 : TypeId := 2
abbrev T_int : TypeId := 3
abbrev T_bool : TypeId := 4
abbrev T_uint8 : TypeId := 5
abbrev T_string : TypeId := 9
abbrev T_a16q_uint8 : TypeId := 22
abbrev T_l_Diagram : TypeId := 24
abbrev T_f_int64q_int64q_impl_Diagram_int64q_int64q_int64q_int64 : TypeId := 26
abbrev T_i_Diagram : TypeId := 27
theorem eg_i_Diagram : Try.prog.eqGuardType Try.prog.depth 27 = false := Try.eqGuardType27
theorem st_i_Diagram : Try.prog.stoodInHeld 27 = false := Try.stoodInHeld27
abbrev T_f_laws_Diagram_impl_Diagram : TypeId := 28
abbrev T_f_int64q_int64q_laws_Diagram_int64q_int64q_bool : TypeId := 29
abbrev T_ss_int64 : TypeId := 30
abbrev T_f_int64q_int64q_impl_Diagram_int64q_int64 : TypeId := 32
abbrev T_f_int64q_int64q_bool : TypeId := 33
abbrev T_f_int64q_int_int : TypeId := 34
abbrev T_f_int64q_int64q_laws_Diagram_bool : TypeId := 35
abbrev T_f_int64q_int64q_impl_Diagram_int64q_int64q_int64 : TypeId := 37
abbrev T_f_int64q_int64q_laws_Diagram_int64q_bool : TypeId := 38
abbrev T_s_int64 : TypeId := 39
abbrev T_f_int64q_int64 : TypeId := 42
abbrev T_f_impl_Diagram_string_string_int64q_int64 : TypeId := 47
abbrev T_f_laws_Diagram_string_bool : TypeId := 48
abbrev T_f_impl_Diagram_int64q_int64q_int64 : TypeId := 50
abbrev T_f_laws_Diagram_bool : TypeId := 51
abbrev T_f_impl_Diagram_impl_Diagram_bool : TypeId := 54
abbrev T_uint64 : TypeId := 57
abbrev T_f_int64q_int64q_int64q_bool : TypeId := 58
abbrev T_f_int64q_int64q_int64q_impl_Diagram_int64q_int64q_int64 : TypeId := 59
abbrev T_f_int64q_int64q_int64 : TypeId := 60
abbrev T_f_16q_uint8q_16q_uint8 : TypeId := 61
abbrev T_i_spins : TypeId := 63
abbrev T_f_int64q_int64q_impl_Diagram_int64q_impl_spins_int64 : TypeId := 65
abbrev T_f_int64 : TypeId := 66
abbrev T_f_int64q_int64q_impl_Diagram_int64 : TypeId := 69
abbrev T_f_impl_Diagram_func_int64q_bool_int64 : TypeId := 70
abbrev T_f_int64q_bool : TypeId := 71
abbrev T_f_int64q_int64q_int64q_int64 : TypeId := 72
abbrev T_f_int64q_int_int64q_int : TypeId := 73
abbrev T_f_int64q_int64q_impl_Diagram_bool_int64 : TypeId := 75
abbrev T_f_impl_Diagram_func_int64q_int64q_int64 : TypeId := 76
abbrev T_f_impl_Diagram_bool : TypeId := 78
abbrev T_f_impl_Diagram_int64 : TypeId := 80
abbrev T_f_int64q_func_int64q_bool_bool : TypeId := 81
abbrev T_f_int64q_int64q_impl_spins_bool : TypeId := 83
abbrev T_f_string_bool : TypeId := 84
abbrev T_f_impl_Diagram_string_string_int64 : TypeId := 86
abbrev T_f_int : TypeId := 87
abbrev T_f_16q_uint8q_16q_uint8q_bool : TypeId := 91
abbrev T_f_int_int64q_int_int64 : TypeId := 92
abbrev T_f_int64q_func_int64q_bool_int : TypeId := 93
abbrev T_s_i_Diagram : TypeId := 97
abbrev T_f_impl_Diagram_func_impl_Diagram_bool_bool : TypeId := 98
abbrev T_a8q_int64 : TypeId := 100
abbrev T_f_string_8q_int64q_bool : TypeId := 102
abbrev T_f_impl_Diagram_impl_Diagram_impl_Diagram_int64 : TypeId := 103
abbrev T_f_string_string_impl_Diagram : TypeId := 104
abbrev T_f_impl_Diagram_bool_string : TypeId := 105
abbrev T_f_string_int64 : TypeId := 106
abbrev T_s_int : TypeId := 107
abbrev T_f_string_int_bool : TypeId := 109
abbrev T_f_int_string : TypeId := 110
abbrev T_f_string_int : TypeId := 111
abbrev T_f_int64q_impl_Diagram : TypeId := 112
abbrev T_f_int64q_int64q_impl_Diagram : TypeId := 113
abbrev T_f_int_impl_Diagram : TypeId := 114
abbrev T_f_int_int_impl_Diagram : TypeId := 115
abbrev T_f_impl_Diagram_func_impl_Diagram_bool_int : TypeId := 116
abbrev T_f_string_impl_Diagram_bool : TypeId := 118
abbrev T_f_string : TypeId := 119
abbrev T_a8q_bool : TypeId := 120
abbrev T_f_impl_Diagram_impl_Diagram_int64q_bool_8q_bool_int64q_bool : TypeId := 122
abbrev T_s_uint8 : TypeId := 124
abbrev T_f_impl_Diagram_impl_Diagram_impl_walk_func_int_int_func : TypeId := 125
abbrev T_f_bool_int : TypeId := 126
abbrev T_f_int_int : TypeId := 127
abbrev T_s_string : TypeId := 128
abbrev T_f_impl_Diagram_int64q_int64q_impl_Diagram : TypeId := 129
abbrev T_f_int_int_int : TypeId := 131
abbrev T_i_walk : TypeId := 132
abbrev T_i_stack : TypeId := 135
theorem eg_i_stack : Try.prog.eqGuardType Try.prog.depth 135 = false := Try.eqGuardType135
theorem st_i_stack : Try.prog.stoodInHeld 135 = false := Try.stoodInHeld135
abbrev T_f_bool_int_int_int : TypeId := 136
abbrev T_f_unsafe_Pointer_unsafe_Pointer_bool : TypeId := 145
end Go.Proofs.Ytimigbgpldjefaa.VE
