/- Names for the numbers of the functions and types of this place; nothing else is proved here. -/
import Derived.Test.YtfglgmimnpjhoaaEc
import Derived.Test.YtfglgmimnpjhoaaProg
set_option linter.all false
namespace Go.Proofs.Ytfglgmimnpjhoaa.VE
open Go
abbrev n_l_FnExactIsDiagram : FuncId := 3
theorem hf_l_FnExactIsDiagram : Try.prog.funcs[3]? = some Try.f3 := Try.func3
theorem hc_l_FnExactIsDiagram : ∀ us w, (callFunc 3 us).run Try.prog w = .ok (.enter 3 us) w := Try.call3
abbrev n_l_FnExactDiagramText : FuncId := 4
theorem hf_l_FnExactDiagramText : Try.prog.funcs[4]? = some Try.f4 := Try.func4
theorem hc_l_FnExactDiagramText : ∀ us w, (callFunc 4 us).run Try.prog w = .ok (.enter 4 us) w := Try.call4
abbrev n_l_FnExactThroughLines : FuncId := 5
theorem hf_l_FnExactThroughLines : Try.prog.funcs[5]? = some Try.f5 := Try.func5
theorem hc_l_FnExactThroughLines : ∀ us w, (callFunc 5 us).run Try.prog w = .ok (.enter 5 us) w := Try.call5
abbrev n_l_FnExactMirrorDiagram : FuncId := 6
theorem hf_l_FnExactMirrorDiagram : Try.prog.funcs[6]? = some Try.f6 := Try.func6
theorem hc_l_FnExactMirrorDiagram : ∀ us w, (callFunc 6 us).run Try.prog w = .ok (.enter 6 us) w := Try.call6
abbrev n_l_FnExactTurnDiagram : FuncId := 7
theorem hf_l_FnExactTurnDiagram : Try.prog.funcs[7]? = some Try.f7 := Try.func7
theorem hc_l_FnExactTurnDiagram : ∀ us w, (callFunc 7 us).run Try.prog w = .ok (.enter 7 us) w := Try.call7
abbrev n_l_FnExactFlipDiagram : FuncId := 8
theorem hf_l_FnExactFlipDiagram : Try.prog.funcs[8]? = some Try.f8 := Try.func8
theorem hc_l_FnExactFlipDiagram : ∀ us w, (callFunc 8 us).run Try.prog w = .ok (.enter 8 us) w := Try.call8
abbrev n_l_FnExactClosureLoops : FuncId := 9
theorem hf_l_FnExactClosureLoops : Try.prog.funcs[9]? = some Try.f9 := Try.func9
theorem hc_l_FnExactClosureLoops : ∀ us w, (callFunc 9 us).run Try.prog w = .ok (.enter 9 us) w := Try.call9
abbrev n_l_FnExactUnionDiagram : FuncId := 10
theorem hf_l_FnExactUnionDiagram : Try.prog.funcs[10]? = some Try.f10 := Try.func10
theorem hc_l_FnExactUnionDiagram : ∀ us w, (callFunc 10 us).run Try.prog w = .ok (.enter 10 us) w := Try.call10
abbrev n_l_FnExactNumberOfDiagram : FuncId := 11
theorem hf_l_FnExactNumberOfDiagram : Try.prog.funcs[11]? = some Try.f11 := Try.func11
theorem hc_l_FnExactNumberOfDiagram : ∀ us w, (callFunc 11 us).run Try.prog w = .ok (.enter 11 us) w := Try.call11
abbrev n_l_FnExactUpperHalf : FuncId := 12
theorem hf_l_FnExactUpperHalf : Try.prog.funcs[12]? = some Try.f12 := Try.func12
theorem hc_l_FnExactUpperHalf : ∀ us w, (callFunc 12 us).run Try.prog w = .ok (.enter 12 us) w := Try.call12
abbrev n_l_FnExactLowerHalf : FuncId := 13
theorem hf_l_FnExactLowerHalf : Try.prog.funcs[13]? = some Try.f13 := Try.func13
theorem hc_l_FnExactLowerHalf : ∀ us w, (callFunc 13 us).run Try.prog w = .ok (.enter 13 us) w := Try.call13
abbrev n_l_FnExactMultiplyDiagrams : FuncId := 14
theorem hf_l_FnExactMultiplyDiagrams : Try.prog.funcs[14]? = some Try.f14 := Try.func14
theorem hc_l_FnExactMultiplyDiagrams : ∀ us w, (callFunc 14 us).run Try.prog w = .ok (.enter 14 us) w := Try.call14
abbrev n_s_IsDiagram : FuncId := 15
theorem hf_s_IsDiagram : Try.prog.funcs[15]? = some Try.f15 := Try.func15
theorem hc_s_IsDiagram : ∀ us w, (callFunc 15 us).run Try.prog w = .ok (.enter 15 us) w := Try.call15
abbrev n_l_toDiagram : FuncId := 16
theorem hf_l_toDiagram : Try.prog.funcs[16]? = some Try.f16 := Try.func16
theorem hc_l_toDiagram : ∀ us w, (callFunc 16 us).run Try.prog w = .ok (.enter 16 us) w := Try.call16
abbrev n_i_IsDiagram : FuncId := 17
theorem hf_i_IsDiagram : Try.prog.funcs[17]? = some Try.f17 := Try.func17
theorem hc_i_IsDiagram : ∀ us w, (callFunc 17 us).run Try.prog w = .ok (.enter 17 us) w := Try.call17
abbrev n_s_DiagramText : FuncId := 18
theorem hf_s_DiagramText : Try.prog.funcs[18]? = some Try.f18 := Try.func18
theorem hc_s_DiagramText : ∀ us w, (callFunc 18 us).run Try.prog w = .ok (.enter 18 us) w := Try.call18
abbrev n_i_DiagramText : FuncId := 19
theorem hf_i_DiagramText : Try.prog.funcs[19]? = some Try.f19 := Try.func19
theorem hc_i_DiagramText : ∀ us w, (callFunc 19 us).run Try.prog w = .ok (.enter 19 us) w := Try.call19
abbrev n_s_ThroughLines : FuncId := 20
theorem hf_s_ThroughLines : Try.prog.funcs[20]? = some Try.f20 := Try.func20
theorem hc_s_ThroughLines : ∀ us w, (callFunc 20 us).run Try.prog w = .ok (.enter 20 us) w := Try.call20
abbrev n_i_ThroughLines : FuncId := 21
theorem hf_i_ThroughLines : Try.prog.funcs[21]? = some Try.f21 := Try.func21
theorem hc_i_ThroughLines : ∀ us w, (callFunc 21 us).run Try.prog w = .ok (.enter 21 us) w := Try.call21
abbrev n_s_MirrorDiagram : FuncId := 22
theorem hf_s_MirrorDiagram : Try.prog.funcs[22]? = some Try.f22 := Try.func22
theorem hc_s_MirrorDiagram : ∀ us w, (callFunc 22 us).run Try.prog w = .ok (.enter 22 us) w := Try.call22
abbrev n_i_MirrorDiagram : FuncId := 23
theorem hf_i_MirrorDiagram : Try.prog.funcs[23]? = some Try.f23 := Try.func23
theorem hc_i_MirrorDiagram : ∀ us w, (callFunc 23 us).run Try.prog w = .ok (.enter 23 us) w := Try.call23
abbrev n_l_eqDiagram : FuncId := 24
theorem hf_l_eqDiagram : Try.prog.funcs[24]? = some Try.f24 := Try.func24
theorem hc_l_eqDiagram : ∀ us w, (callFunc 24 us).run Try.prog w = .ok (.enter 24 us) w := Try.call24
abbrev n_s_TurnDiagram : FuncId := 25
theorem hf_s_TurnDiagram : Try.prog.funcs[25]? = some Try.f25 := Try.func25
theorem hc_s_TurnDiagram : ∀ us w, (callFunc 25 us).run Try.prog w = .ok (.enter 25 us) w := Try.call25
abbrev n_i_TurnDiagram : FuncId := 26
theorem hf_i_TurnDiagram : Try.prog.funcs[26]? = some Try.f26 := Try.func26
theorem hc_i_TurnDiagram : ∀ us w, (callFunc 26 us).run Try.prog w = .ok (.enter 26 us) w := Try.call26
abbrev n_s_FlipDiagram : FuncId := 27
theorem hf_s_FlipDiagram : Try.prog.funcs[27]? = some Try.f27 := Try.func27
theorem hc_s_FlipDiagram : ∀ us w, (callFunc 27 us).run Try.prog w = .ok (.enter 27 us) w := Try.call27
abbrev n_i_FlipDiagram : FuncId := 28
theorem hf_i_FlipDiagram : Try.prog.funcs[28]? = some Try.f28 := Try.func28
theorem hc_i_FlipDiagram : ∀ us w, (callFunc 28 us).run Try.prog w = .ok (.enter 28 us) w := Try.call28
abbrev n_s_ClosureLoops : FuncId := 29
theorem hf_s_ClosureLoops : Try.prog.funcs[29]? = some Try.f29 := Try.func29
theorem hc_s_ClosureLoops : ∀ us w, (callFunc 29 us).run Try.prog w = .ok (.enter 29 us) w := Try.call29
abbrev n_i_ClosureLoops : FuncId := 30
theorem hf_i_ClosureLoops : Try.prog.funcs[30]? = some Try.f30 := Try.func30
theorem hc_i_ClosureLoops : ∀ us w, (callFunc 30 us).run Try.prog w = .ok (.enter 30 us) w := Try.call30
abbrev n_s_UnionDiagram : FuncId := 31
theorem hf_s_UnionDiagram : Try.prog.funcs[31]? = some Try.f31 := Try.func31
theorem hc_s_UnionDiagram : ∀ us w, (callFunc 31 us).run Try.prog w = .ok (.enter 31 us) w := Try.call31
abbrev n_i_UnionDiagram : FuncId := 32
theorem hf_i_UnionDiagram : Try.prog.funcs[32]? = some Try.f32 := Try.func32
theorem hc_i_UnionDiagram : ∀ us w, (callFunc 32 us).run Try.prog w = .ok (.enter 32 us) w := Try.call32
abbrev n_s_NumberOfDiagram : FuncId := 33
theorem hf_s_NumberOfDiagram : Try.prog.funcs[33]? = some Try.f33 := Try.func33
theorem hc_s_NumberOfDiagram : ∀ us w, (callFunc 33 us).run Try.prog w = .ok (.enter 33 us) w := Try.call33
abbrev n_i_NumberOfDiagram : FuncId := 34
theorem hf_i_NumberOfDiagram : Try.prog.funcs[34]? = some Try.f34 := Try.func34
theorem hc_i_NumberOfDiagram : ∀ us w, (callFunc 34 us).run Try.prog w = .ok (.enter 34 us) w := Try.call34
abbrev n_s_UpperHalf : FuncId := 35
theorem hf_s_UpperHalf : Try.prog.funcs[35]? = some Try.f35 := Try.func35
theorem hc_s_UpperHalf : ∀ us w, (callFunc 35 us).run Try.prog w = .ok (.enter 35 us) w := Try.call35
abbrev n_i_UpperHalf : FuncId := 36
theorem hf_i_UpperHalf : Try.prog.funcs[36]? = some Try.f36 := Try.func36
theorem hc_i_UpperHalf : ∀ us w, (callFunc 36 us).run Try.prog w = .ok (.enter 36 us) w := Try.call36
abbrev n_s_LowerHalf : FuncId := 37
theorem hf_s_LowerHalf : Try.prog.funcs[37]? = some Try.f37 := Try.func37
theorem hc_s_LowerHalf : ∀ us w, (callFunc 37 us).run Try.prog w = .ok (.enter 37 us) w := Try.call37
abbrev n_i_LowerHalf : FuncId := 38
theorem hf_i_LowerHalf : Try.prog.funcs[38]? = some Try.f38 := Try.func38
theorem hc_i_LowerHalf : ∀ us w, (callFunc 38 us).run Try.prog w = .ok (.enter 38 us) w := Try.call38
abbrev n_s_MultiplyDiagrams : FuncId := 39
theorem hf_s_MultiplyDiagrams : Try.prog.funcs[39]? = some Try.f39 := Try.func39
theorem hc_s_MultiplyDiagrams : ∀ us w, (callFunc 39 us).run Try.prog w = .ok (.enter 39 us) w := Try.call39
abbrev n_i_MultiplyDiagrams : FuncId := 40
theorem hf_i_MultiplyDiagrams : Try.prog.funcs[40]? = some Try.f40 := Try.func40
theorem hc_i_MultiplyDiagrams : ∀ us w, (callFunc 40 us).run Try.prog w = .ok (.enter 40 us) w := Try.call40
abbrev n_s_l01Is : FuncId := 41
theorem hf_s_l01Is : Try.prog.funcs[41]? = some Try.f41 := Try.func41
theorem hc_s_l01Is : ∀ us w, (callFunc 41 us).run Try.prog w = .ok (.enter 41 us) w := Try.call41
abbrev n_l_toByteA16 : FuncId := 42
theorem hf_l_toByteA16 : Try.prog.funcs[42]? = some Try.f42 := Try.func42
theorem hc_l_toByteA16 : ∀ us w, (callFunc 42 us).run Try.prog w = .ok (.enter 42 us) w := Try.call42
abbrev n_i_in : FuncId := 43
theorem hf_i_in : Try.prog.funcs[43]? = some Try.f43 := Try.func43
theorem hc_i_in : ∀ us w, (callFunc 43 us).run Try.prog w = .ok (.enter 43 us) w := Try.call43
abbrev n_i_Diagram_n : FuncId := 44
theorem hf_i_Diagram_n : Try.prog.funcs[44]? = some Try.f44 := Try.func44
theorem hc_i_Diagram_n : ∀ us w, (callFunc 44 us).run Try.prog w = .ok (.enter 44 us) w := Try.call44
abbrev n_i_read : FuncId := 45
theorem hf_i_read : Try.prog.funcs[45]? = some Try.f45 := Try.func45
theorem hc_i_read : ∀ us w, (callFunc 45 us).run Try.prog w = .ok (.enter 45 us) w := Try.call45
abbrev n_i_Diagram_text : FuncId := 46
theorem hf_i_Diagram_text : Try.prog.funcs[46]? = some Try.f46 := Try.func46
theorem hc_i_Diagram_text : ∀ us w, (callFunc 46 us).run Try.prog w = .ok (.enter 46 us) w := Try.call46
abbrev n_s_l01Text : FuncId := 47
theorem hf_s_l01Text : Try.prog.funcs[47]? = some Try.f47 := Try.func47
theorem hc_s_l01Text : ∀ us w, (callFunc 47 us).run Try.prog w = .ok (.enter 47 us) w := Try.call47
abbrev n_i_invalid : FuncId := 48
theorem hf_i_invalid : Try.prog.funcs[48]? = some Try.f48 := Try.func48
theorem hc_i_invalid : ∀ us w, (callFunc 48 us).run Try.prog w = .ok (.enter 48 us) w := Try.call48
abbrev n_s_l01Through : FuncId := 49
theorem hf_s_l01Through : Try.prog.funcs[49]? = some Try.f49 := Try.func49
theorem hc_s_l01Through : ∀ us w, (callFunc 49 us).run Try.prog w = .ok (.enter 49 us) w := Try.call49
abbrev n_i_Diagram_moved : FuncId := 50
theorem hf_i_Diagram_moved : Try.prog.funcs[50]? = some Try.f50 := Try.func50
theorem hc_i_Diagram_moved : ∀ us w, (callFunc 50 us).run Try.prog w = .ok (.enter 50 us) w := Try.call50
abbrev n_i_MirrorDiagram_1 : FuncId := 51
theorem hf_i_MirrorDiagram_1 : Try.prog.funcs[51]? = some Try.f51 := Try.func51
theorem hc_i_MirrorDiagram_1 : ∀ us w, (callFunc 51 us).run Try.prog w = .ok (.enter 51 us) w := Try.call51
abbrev n_l_eqByteA16 : FuncId := 52
theorem hf_l_eqByteA16 : Try.prog.funcs[52]? = some Try.f52 := Try.func52
theorem hc_l_eqByteA16 : ∀ us w, (callFunc 52 us).run Try.prog w = .ok (.enter 52 us) w := Try.call52
abbrev n_s_l01Place : FuncId := 53
theorem hf_s_l01Place : Try.prog.funcs[53]? = some Try.f53 := Try.func53
theorem hc_s_l01Place : ∀ us w, (callFunc 53 us).run Try.prog w = .ok (.enter 53 us) w := Try.call53
abbrev n_i_TurnDiagram_1 : FuncId := 54
theorem hf_i_TurnDiagram_1 : Try.prog.funcs[54]? = some Try.f54 := Try.func54
theorem hc_i_TurnDiagram_1 : ∀ us w, (callFunc 54 us).run Try.prog w = .ok (.enter 54 us) w := Try.call54
abbrev n_i_placeOf : FuncId := 55
theorem hf_i_placeOf : Try.prog.funcs[55]? = some Try.f55 := Try.func55
theorem hc_i_placeOf : ∀ us w, (callFunc 55 us).run Try.prog w = .ok (.enter 55 us) w := Try.call55
abbrev n_s_l01Flip : FuncId := 56
theorem hf_s_l01Flip : Try.prog.funcs[56]? = some Try.f56 := Try.func56
theorem hc_s_l01Flip : ∀ us w, (callFunc 56 us).run Try.prog w = .ok (.enter 56 us) w := Try.call56
abbrev n_i_flip : FuncId := 57
theorem hf_i_flip : Try.prog.funcs[57]? = some Try.f57 := Try.func57
theorem hc_i_flip : ∀ us w, (callFunc 57 us).run Try.prog w = .ok (.enter 57 us) w := Try.call57
abbrev n_s_l01Closure : FuncId := 58
theorem hf_s_l01Closure : Try.prog.funcs[58]? = some Try.f58 := Try.func58
theorem hc_s_l01Closure : ∀ us w, (callFunc 58 us).run Try.prog w = .ok (.enter 58 us) w := Try.call58
abbrev n_i_loops : FuncId := 59
theorem hf_i_loops : Try.prog.funcs[59]? = some Try.f59 := Try.func59
theorem hc_i_loops : ∀ us w, (callFunc 59 us).run Try.prog w = .ok (.enter 59 us) w := Try.call59
abbrev n_s_l01Join : FuncId := 60
theorem hf_s_l01Join : Try.prog.funcs[60]? = some Try.f60 := Try.func60
theorem hc_s_l01Join : ∀ us w, (callFunc 60 us).run Try.prog w = .ok (.enter 60 us) w := Try.call60
abbrev n_s_l01Moved : FuncId := 61
theorem hf_s_l01Moved : Try.prog.funcs[61]? = some Try.f61 := Try.func61
theorem hc_s_l01Moved : ∀ us w, (callFunc 61 us).run Try.prog w = .ok (.enter 61 us) w := Try.call61
abbrev n_i_union : FuncId := 62
theorem hf_i_union : Try.prog.funcs[62]? = some Try.f62 := Try.func62
theorem hc_i_union : ∀ us w, (callFunc 62 us).run Try.prog w = .ok (.enter 62 us) w := Try.call62
abbrev n_s_l01Ways : FuncId := 63
theorem hf_s_l01Ways : Try.prog.funcs[63]? = some Try.f63 := Try.func63
theorem hc_s_l01Ways : ∀ us w, (callFunc 63 us).run Try.prog w = .ok (.enter 63 us) w := Try.call63
abbrev n_g_BinarySearchFunc_string : FuncId := 64
theorem hf_g_BinarySearchFunc_string : Try.prog.funcs[64]? = some Try.f64 := Try.func64
theorem hc_g_BinarySearchFunc_string : ∀ us w, (callFunc 64 us).run Try.prog w = .ok (.enter 64 us) w := Try.call64
abbrev n_i_bracketings : FuncId := 65
theorem hf_i_bracketings : Try.prog.funcs[65]? = some Try.f65 := Try.func65
theorem hc_i_bracketings : ∀ us w, (callFunc 65 us).run Try.prog w = .ok (.enter 65 us) w := Try.call65
abbrev n_strings_Compare : FuncId := 66
theorem hf_strings_Compare : Try.prog.funcs[66]? = some Try.f66 := Try.func66
theorem hc_strings_Compare : ∀ us w, (callFunc 66 us).run Try.prog w = .ok (.enter 66 us) w := Try.call66
abbrev n_s_l04Half : FuncId := 67
theorem hf_s_l04Half : Try.prog.funcs[67]? = some Try.f67 := Try.func67
theorem hc_s_l04Half : ∀ us w, (callFunc 67 us).run Try.prog w = .ok (.enter 67 us) w := Try.call67
abbrev n_i_Diagram_halfOf : FuncId := 68
theorem hf_i_Diagram_halfOf : Try.prog.funcs[68]? = some Try.f68 := Try.func68
theorem hc_i_Diagram_halfOf : ∀ us w, (callFunc 68 us).run Try.prog w = .ok (.enter 68 us) w := Try.call68
abbrev n_s_l01Pair : FuncId := 69
theorem hf_s_l01Pair : Try.prog.funcs[69]? = some Try.f69 := Try.func69
theorem hc_s_l01Pair : ∀ us w, (callFunc 69 us).run Try.prog w = .ok (.enter 69 us) w := Try.call69
abbrev n_s_l01Times : FuncId := 70
theorem hf_s_l01Times : Try.prog.funcs[70]? = some Try.f70 := Try.func70
theorem hc_s_l01Times : ∀ us w, (callFunc 70 us).run Try.prog w = .ok (.enter 70 us) w := Try.call70
abbrev n_i_times : FuncId := 71
theorem hf_i_times : Try.prog.funcs[71]? = some Try.f71 := Try.func71
theorem hc_i_times : ∀ us w, (callFunc 71 us).run Try.prog w = .ok (.enter 71 us) w := Try.call71
abbrev n_s_l01In : FuncId := 72
theorem hf_s_l01In : Try.prog.funcs[72]? = some Try.f72 := Try.func72
theorem hc_s_l01In : ∀ us w, (callFunc 72 us).run Try.prog w = .ok (.enter 72 us) w := Try.call72
abbrev n_s_l01Ends : FuncId := 73
theorem hf_s_l01Ends : Try.prog.funcs[73]? = some Try.f73 := Try.func73
theorem hc_s_l01Ends : ∀ us w, (callFunc 73 us).run Try.prog w = .ok (.enter 73 us) w := Try.call73
abbrev n_i_partners : FuncId := 74
theorem hf_i_partners : Try.prog.funcs[74]? = some Try.f74 := Try.func74
theorem hc_i_partners : ∀ us w, (callFunc 74 us).run Try.prog w = .ok (.enter 74 us) w := Try.call74
abbrev n_i_joined : FuncId := 75
theorem hf_i_joined : Try.prog.funcs[75]? = some Try.f75 := Try.func75
theorem hc_i_joined : ∀ us w, (callFunc 75 us).run Try.prog w = .ok (.enter 75 us) w := Try.call75
abbrev n_g_ContainsFunc_Diagram : FuncId := 76
theorem hf_g_ContainsFunc_Diagram : Try.prog.funcs[76]? = some Try.f76 := Try.func76
theorem hc_g_ContainsFunc_Diagram : ∀ us w, (callFunc 76 us).run Try.prog w = .ok (.enter 76 us) w := Try.call76
abbrev n_i_invalid_1 : FuncId := 77
theorem hf_i_invalid_1 : Try.prog.funcs[77]? = some Try.f77 := Try.func77
theorem hc_i_invalid_1 : ∀ us w, (callFunc 77 us).run Try.prog w = .ok (.enter 77 us) w := Try.call77
abbrev n_i_flip_1 : FuncId := 78
theorem hf_i_flip_1 : Try.prog.funcs[78]? = some Try.f78 := Try.func78
theorem hc_i_flip_1 : ∀ us w, (callFunc 78 us).run Try.prog w = .ok (.enter 78 us) w := Try.call78
abbrev n_i_Diagram_closure : FuncId := 79
theorem hf_i_Diagram_closure : Try.prog.funcs[79]? = some Try.f79 := Try.func79
theorem hc_i_Diagram_closure : ∀ us w, (callFunc 79 us).run Try.prog w = .ok (.enter 79 us) w := Try.call79
abbrev n_i_loops_1 : FuncId := 80
theorem hf_i_loops_1 : Try.prog.funcs[80]? = some Try.f80 := Try.func80
theorem hc_i_loops_1 : ∀ us w, (callFunc 80 us).run Try.prog w = .ok (.enter 80 us) w := Try.call80
abbrev n_i_loops_2 : FuncId := 81
theorem hf_i_loops_2 : Try.prog.funcs[81]? = some Try.f81 := Try.func81
theorem hc_i_loops_2 : ∀ us w, (callFunc 81 us).run Try.prog w = .ok (.enter 81 us) w := Try.call81
abbrev n_i_union_1 : FuncId := 82
theorem hf_i_union_1 : Try.prog.funcs[82]? = some Try.f82 := Try.func82
theorem hc_i_union_1 : ∀ us w, (callFunc 82 us).run Try.prog w = .ok (.enter 82 us) w := Try.call82
abbrev n_i_union_2 : FuncId := 83
theorem hf_i_union_2 : Try.prog.funcs[83]? = some Try.f83 := Try.func83
theorem hc_i_union_2 : ∀ us w, (callFunc 83 us).run Try.prog w = .ok (.enter 83 us) w := Try.call83
abbrev n_i_bracketings_1 : FuncId := 84
theorem hf_i_bracketings_1 : Try.prog.funcs[84]? = some Try.f84 := Try.func84
theorem hc_i_bracketings_1 : ∀ us w, (callFunc 84 us).run Try.prog w = .ok (.enter 84 us) w := Try.call84
abbrev n_internal_bytealg_CompareString : FuncId := 85
theorem hf_internal_bytealg_CompareString : Try.prog.funcs[85]? = some Try.f85 := Try.func85
theorem hc_internal_bytealg_CompareString : ∀ us w, (callFunc 85 us).run Try.prog w = .ok (.enter 85 us) w := Try.call85
abbrev n_s_l01Follow : FuncId := 86
theorem hf_s_l01Follow : Try.prog.funcs[86]? = some Try.f86 := Try.func86
theorem hc_s_l01Follow : ∀ us w, (callFunc 86 us).run Try.prog w = .ok (.enter 86 us) w := Try.call86
abbrev n_i_product : FuncId := 87
theorem hf_i_product : Try.prog.funcs[87]? = some Try.f87 := Try.func87
theorem hc_i_product : ∀ us w, (callFunc 87 us).run Try.prog w = .ok (.enter 87 us) w := Try.call87
abbrev n_i_times_1 : FuncId := 88
theorem hf_i_times_1 : Try.prog.funcs[88]? = some Try.f88 := Try.func88
theorem hc_i_times_1 : ∀ us w, (callFunc 88 us).run Try.prog w = .ok (.enter 88 us) w := Try.call88
abbrev n_i_times_2 : FuncId := 89
theorem hf_i_times_2 : Try.prog.funcs[89]? = some Try.f89 := Try.func89
theorem hc_i_times_2 : ∀ us w, (callFunc 89 us).run Try.prog w = .ok (.enter 89 us) w := Try.call89
abbrev n_i_times_3 : FuncId := 90
theorem hf_i_times_3 : Try.prog.funcs[90]? = some Try.f90 := Try.func90
theorem hc_i_times_3 : ∀ us w, (callFunc 90 us).run Try.prog w = .ok (.enter 90 us) w := Try.call90
abbrev n_g_IndexFunc_Diagram : FuncId := 91
theorem hf_g_IndexFunc_Diagram : Try.prog.funcs[91]? = some Try.f91 := Try.func91
theorem hc_g_IndexFunc_Diagram : ∀ us w, (callFunc 91 us).run Try.prog w = .ok (.enter 91 us) w := Try.call91
abbrev n_i_stack_follow : FuncId := 93
theorem hf_i_stack_follow : Try.prog.funcs[93]? = some Try.f93 := Try.func93
theorem hc_i_stack_follow : ∀ us w, (callFunc 93 us).run Try.prog w = .ok (.enter 93 us) w := Try.call93
abbrev T_f_ : TypeId := 1
abbrev T_int64 : TypeId := 2
abbrev T_int : TypeId := 3
abbrev T_bool : TypeId := 4
abbrev T_uint8 : TypeId := 5
abbrev T_string : TypeId := 9
abbrev T_a16q_uint8 : TypeId := 22
abbrev T_l_Diagram : TypeId := 24
abbrev T_f_impl_Diagram_bool : TypeId := 25
abbrev T_i_Diagram : TypeId := 26
theorem eg_i_Diagram : Try.prog.eqGuardType Try.prog.depth 26 = false := Try.eqGuardType26
theorem st_i_Diagram : Try.prog.stoodInHeld 26 = false := Try.stoodInHeld26
abbrev T_f_laws_Diagram_impl_Diagram : TypeId := 27
abbrev T_f_laws_Diagram_bool : TypeId := 28
abbrev T_f_impl_Diagram_string_int64 : TypeId := 30
abbrev T_f_impl_Diagram_int64q_int64 : TypeId := 32
abbrev T_f_impl_Diagram_impl_Diagram_int64 : TypeId := 34
abbrev T_f_impl_Diagram_impl_Diagram_bool : TypeId := 35
abbrev T_f_impl_Diagram_impl_Diagram_impl_Diagram_int64 : TypeId := 36
abbrev T_f_laws_Diagram_laws_Diagram_bool : TypeId := 37
abbrev T_f_impl_Diagram_impl_Diagram_impl_Diagram_int64q_int64 : TypeId := 39
abbrev T_f_16q_uint8q_16q_uint8 : TypeId := 40
abbrev T_f_int64q_int64q_int64q_bool : TypeId := 41
abbrev T_f_int : TypeId := 42
abbrev T_f_string_impl_Diagram_bool : TypeId := 44
abbrev T_f_string : TypeId := 45
abbrev T_f_impl_Diagram_string : TypeId := 46
abbrev T_f_impl_Diagram_int64 : TypeId := 47
abbrev T_f_func_int_int_impl_Diagram : TypeId := 49
abbrev T_f_int_int : TypeId := 50
abbrev T_f_16q_uint8q_16q_uint8q_bool : TypeId := 51
abbrev T_f_int64q_int64q_int64 : TypeId := 52
abbrev T_f_int_int_int : TypeId := 53
abbrev T_f_impl_Diagram_impl_Diagram : TypeId := 54
abbrev T_f_impl_Diagram_int64q_int64q_impl_Diagram : TypeId := 55
abbrev T_f_int64q_int64q_int64q_int64q_int64 : TypeId := 56
abbrev T_f_impl_Diagram_impl_Diagram_impl_Diagram : TypeId := 57
abbrev T_f_string_string_func_string_string_int_int_bool : TypeId := 59
abbrev T_s_string : TypeId := 60
abbrev T_f_int_string : TypeId := 61
abbrev T_f_string_string_int : TypeId := 62
abbrev T_f_impl_Diagram_bool_string : TypeId := 63
abbrev T_f_impl_Diagram_int64q_int64q_int64 : TypeId := 66
abbrev T_s_int : TypeId := 68
abbrev T_f_string_int_bool : TypeId := 70
abbrev T_f_int_int_impl_Diagram : TypeId := 71
abbrev T_s_uint8 : TypeId := 72
abbrev T_s_i_Diagram : TypeId := 73
abbrev T_f_impl_Diagram_func_impl_Diagram_bool_bool : TypeId := 74
abbrev T_a16q_bool : TypeId := 75
abbrev T_f_func_int_func : TypeId := 76
abbrev T_f_string_int : TypeId := 79
abbrev T_a8q_bool : TypeId := 80
abbrev T_f_impl_Diagram_impl_Diagram_int64q_bool_8q_bool_int64q_bool : TypeId := 82
abbrev T_f_impl_Diagram_impl_Diagram_impl_walk_func_int_int_func : TypeId := 84
abbrev T_f_bool_int : TypeId := 85
abbrev T_f_impl_Diagram_func_impl_Diagram_bool_int : TypeId := 87
abbrev T_i_walk : TypeId := 88
abbrev T_i_stack : TypeId := 91
theorem eg_i_stack : Try.prog.eqGuardType Try.prog.depth 91 = false := Try.eqGuardType91
theorem st_i_stack : Try.prog.stoodInHeld 91 = false := Try.stoodInHeld91
abbrev T_f_bool_int_int_int : TypeId := 92
abbrev T_f_unsafe_Pointer_unsafe_Pointer_bool : TypeId := 101
end Go.Proofs.Ytfglgmimnpjhoaa.VE
