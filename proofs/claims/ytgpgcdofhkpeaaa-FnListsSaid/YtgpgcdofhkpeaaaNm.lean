/- Names for the numbers of the functions and types of this place; nothing else is proved here. -/
import Derived.Test.YtgpgcdofhkpeaaaEc
import Derived.Test.YtgpgcdofhkpeaaaProg
set_option linter.all false
namespace Go.Proofs.Ytgpgcdofhkpeaaa.VE
open Go
abbrev n_l_FnExactNormalWord : FuncId := 3
theorem hf_l_FnExactNormalWord : Try.prog.funcs[3]? = some Try.f3 := Try.func3
theorem hc_l_FnExactNormalWord : ∀ us w, (callFunc 3 us).run Try.prog w = .ok (.enter 3 us) w := Try.call3
abbrev n_l_FnExactLengthOfDiagram : FuncId := 4
theorem hf_l_FnExactLengthOfDiagram : Try.prog.funcs[4]? = some Try.f4 := Try.func4
theorem hc_l_FnExactLengthOfDiagram : ∀ us w, (callFunc 4 us).run Try.prog w = .ok (.enter 4 us) w := Try.call4
abbrev n_l_FnExactCountShortest : FuncId := 5
theorem hf_l_FnExactCountShortest : Try.prog.funcs[5]? = some Try.f5 := Try.func5
theorem hc_l_FnExactCountShortest : ∀ us w, (callFunc 5 us).run Try.prog w = .ok (.enter 5 us) w := Try.call5
abbrev n_l_FnExactReduceWord : FuncId := 6
theorem hf_l_FnExactReduceWord : Try.prog.funcs[6]? = some Try.f6 := Try.func6
theorem hc_l_FnExactReduceWord : ∀ us w, (callFunc 6 us).run Try.prog w = .ok (.enter 6 us) w := Try.call6
abbrev n_l_FnExactIsReducedWord : FuncId := 7
theorem hf_l_FnExactIsReducedWord : Try.prog.funcs[7]? = some Try.f7 := Try.func7
theorem hc_l_FnExactIsReducedWord : ∀ us w, (callFunc 7 us).run Try.prog w = .ok (.enter 7 us) w := Try.call7
abbrev n_l_FnExactLongestLength : FuncId := 8
theorem hf_l_FnExactLongestLength : Try.prog.funcs[8]? = some Try.f8 := Try.func8
theorem hc_l_FnExactLongestLength : ∀ us w, (callFunc 8 us).run Try.prog w = .ok (.enter 8 us) w := Try.call8
abbrev n_l_FnShapes : FuncId := 9
theorem hf_l_FnShapes : Try.prog.funcs[9]? = some Try.f9 := Try.func9
theorem hc_l_FnShapes : ∀ us w, (callFunc 9 us).run Try.prog w = .ok (.enter 9 us) w := Try.call9
abbrev n_l_FnProducts : FuncId := 10
theorem hf_l_FnProducts : Try.prog.funcs[10]? = some Try.f10 := Try.func10
theorem hc_l_FnProducts : ∀ us w, (callFunc 10 us).run Try.prog w = .ok (.enter 10 us) w := Try.call10
abbrev n_l_FnLists : FuncId := 11
theorem hf_l_FnLists : Try.prog.funcs[11]? = some Try.f11 := Try.func11
theorem hc_l_FnLists : ∀ us w, (callFunc 11 us).run Try.prog w = .ok (.enter 11 us) w := Try.call11
abbrev n_s_NormalWord : FuncId := 12
theorem hf_s_NormalWord : Try.prog.funcs[12]? = some Try.f12 := Try.func12
theorem hc_s_NormalWord : ∀ us w, (callFunc 12 us).run Try.prog w = .ok (.enter 12 us) w := Try.call12
abbrev n_l_toDiagram : FuncId := 13
theorem hf_l_toDiagram : Try.prog.funcs[13]? = some Try.f13 := Try.func13
theorem hc_l_toDiagram : ∀ us w, (callFunc 13 us).run Try.prog w = .ok (.enter 13 us) w := Try.call13
abbrev n_i_NormalWord : FuncId := 14
theorem hf_i_NormalWord : Try.prog.funcs[14]? = some Try.f14 := Try.func14
theorem hc_i_NormalWord : ∀ us w, (callFunc 14 us).run Try.prog w = .ok (.enter 14 us) w := Try.call14
abbrev n_l_eqInt64S : FuncId := 15
theorem hf_l_eqInt64S : Try.prog.funcs[15]? = some Try.f15 := Try.func15
theorem hc_l_eqInt64S : ∀ us w, (callFunc 15 us).run Try.prog w = .ok (.enter 15 us) w := Try.call15
abbrev n_l_markInt64S : FuncId := 16
theorem hf_l_markInt64S : Try.prog.funcs[16]? = some Try.f16 := Try.func16
theorem hc_l_markInt64S : ∀ us w, (callFunc 16 us).run Try.prog w = .ok (.enter 16 us) w := Try.call16
abbrev n_l_heldInt64S : FuncId := 17
theorem hf_l_heldInt64S : Try.prog.funcs[17]? = some Try.f17 := Try.func17
theorem hc_l_heldInt64S : ∀ us w, (callFunc 17 us).run Try.prog w = .ok (.enter 17 us) w := Try.call17
abbrev n_s_LengthOfDiagram : FuncId := 18
theorem hf_s_LengthOfDiagram : Try.prog.funcs[18]? = some Try.f18 := Try.func18
theorem hc_s_LengthOfDiagram : ∀ us w, (callFunc 18 us).run Try.prog w = .ok (.enter 18 us) w := Try.call18
abbrev n_i_LengthOfDiagram : FuncId := 19
theorem hf_i_LengthOfDiagram : Try.prog.funcs[19]? = some Try.f19 := Try.func19
theorem hc_i_LengthOfDiagram : ∀ us w, (callFunc 19 us).run Try.prog w = .ok (.enter 19 us) w := Try.call19
abbrev n_s_CountShortest : FuncId := 20
theorem hf_s_CountShortest : Try.prog.funcs[20]? = some Try.f20 := Try.func20
theorem hc_s_CountShortest : ∀ us w, (callFunc 20 us).run Try.prog w = .ok (.enter 20 us) w := Try.call20
abbrev n_i_CountShortest : FuncId := 21
theorem hf_i_CountShortest : Try.prog.funcs[21]? = some Try.f21 := Try.func21
theorem hc_i_CountShortest : ∀ us w, (callFunc 21 us).run Try.prog w = .ok (.enter 21 us) w := Try.call21
abbrev n_s_ReduceWord : FuncId := 22
theorem hf_s_ReduceWord : Try.prog.funcs[22]? = some Try.f22 := Try.func22
theorem hc_s_ReduceWord : ∀ us w, (callFunc 22 us).run Try.prog w = .ok (.enter 22 us) w := Try.call22
abbrev n_l_toInt64S : FuncId := 23
theorem hf_l_toInt64S : Try.prog.funcs[23]? = some Try.f23 := Try.func23
theorem hc_l_toInt64S : ∀ us w, (callFunc 23 us).run Try.prog w = .ok (.enter 23 us) w := Try.call23
abbrev n_i_ReduceWord : FuncId := 24
theorem hf_i_ReduceWord : Try.prog.funcs[24]? = some Try.f24 := Try.func24
theorem hc_i_ReduceWord : ∀ us w, (callFunc 24 us).run Try.prog w = .ok (.enter 24 us) w := Try.call24
abbrev n_s_IsReducedWord : FuncId := 25
theorem hf_s_IsReducedWord : Try.prog.funcs[25]? = some Try.f25 := Try.func25
theorem hc_s_IsReducedWord : ∀ us w, (callFunc 25 us).run Try.prog w = .ok (.enter 25 us) w := Try.call25
abbrev n_i_IsReducedWord : FuncId := 26
theorem hf_i_IsReducedWord : Try.prog.funcs[26]? = some Try.f26 := Try.func26
theorem hc_i_IsReducedWord : ∀ us w, (callFunc 26 us).run Try.prog w = .ok (.enter 26 us) w := Try.call26
abbrev n_s_LongestLength : FuncId := 27
theorem hf_s_LongestLength : Try.prog.funcs[27]? = some Try.f27 := Try.func27
theorem hc_s_LongestLength : ∀ us w, (callFunc 27 us).run Try.prog w = .ok (.enter 27 us) w := Try.call27
abbrev n_i_LongestLength : FuncId := 28
theorem hf_i_LongestLength : Try.prog.funcs[28]? = some Try.f28 := Try.func28
theorem hc_i_LongestLength : ∀ us w, (callFunc 28 us).run Try.prog w = .ok (.enter 28 us) w := Try.call28
abbrev n_l_big : FuncId := 29
theorem hf_l_big : Try.prog.funcs[29]? = some Try.f29 := Try.func29
theorem hc_l_big : ∀ us w, (callFunc 29 us).run Try.prog w = .ok (.enter 29 us) w := Try.call29
abbrev n_s_DrawTurnDiagram : FuncId := 30
theorem hf_s_DrawTurnDiagram : Try.prog.funcs[30]? = some Try.f30 := Try.func30
theorem hc_s_DrawTurnDiagram : ∀ us w, (callFunc 30 us).run Try.prog w = .ok (.enter 30 us) w := Try.call30
abbrev n_i_TurnDiagram : FuncId := 31
theorem hf_i_TurnDiagram : Try.prog.funcs[31]? = some Try.f31 := Try.func31
theorem hc_i_TurnDiagram : ∀ us w, (callFunc 31 us).run Try.prog w = .ok (.enter 31 us) w := Try.call31
abbrev n_s_TurnDiagram : FuncId := 32
theorem hf_s_TurnDiagram : Try.prog.funcs[32]? = some Try.f32 := Try.func32
theorem hc_s_TurnDiagram : ∀ us w, (callFunc 32 us).run Try.prog w = .ok (.enter 32 us) w := Try.call32
abbrev n_i_MirrorDiagram : FuncId := 33
theorem hf_i_MirrorDiagram : Try.prog.funcs[33]? = some Try.f33 := Try.func33
theorem hc_i_MirrorDiagram : ∀ us w, (callFunc 33 us).run Try.prog w = .ok (.enter 33 us) w := Try.call33
abbrev n_s_MirrorDiagram : FuncId := 34
theorem hf_s_MirrorDiagram : Try.prog.funcs[34]? = some Try.f34 := Try.func34
theorem hc_s_MirrorDiagram : ∀ us w, (callFunc 34 us).run Try.prog w = .ok (.enter 34 us) w := Try.call34
abbrev n_i_ClosureLoops : FuncId := 35
theorem hf_i_ClosureLoops : Try.prog.funcs[35]? = some Try.f35 := Try.func35
theorem hc_i_ClosureLoops : ∀ us w, (callFunc 35 us).run Try.prog w = .ok (.enter 35 us) w := Try.call35
abbrev n_s_ClosureLoops : FuncId := 36
theorem hf_s_ClosureLoops : Try.prog.funcs[36]? = some Try.f36 := Try.func36
theorem hc_s_ClosureLoops : ∀ us w, (callFunc 36 us).run Try.prog w = .ok (.enter 36 us) w := Try.call36
abbrev n_s_DrawUnionDiagram : FuncId := 37
theorem hf_s_DrawUnionDiagram : Try.prog.funcs[37]? = some Try.f37 := Try.func37
theorem hc_s_DrawUnionDiagram : ∀ us w, (callFunc 37 us).run Try.prog w = .ok (.enter 37 us) w := Try.call37
abbrev n_i_UnionDiagram : FuncId := 38
theorem hf_i_UnionDiagram : Try.prog.funcs[38]? = some Try.f38 := Try.func38
theorem hc_i_UnionDiagram : ∀ us w, (callFunc 38 us).run Try.prog w = .ok (.enter 38 us) w := Try.call38
abbrev n_s_UnionDiagram : FuncId := 39
theorem hf_s_UnionDiagram : Try.prog.funcs[39]? = some Try.f39 := Try.func39
theorem hc_s_UnionDiagram : ∀ us w, (callFunc 39 us).run Try.prog w = .ok (.enter 39 us) w := Try.call39
abbrev n_s_DrawGeneratorDiagram : FuncId := 40
theorem hf_s_DrawGeneratorDiagram : Try.prog.funcs[40]? = some Try.f40 := Try.func40
theorem hc_s_DrawGeneratorDiagram : ∀ us w, (callFunc 40 us).run Try.prog w = .ok (.enter 40 us) w := Try.call40
abbrev n_i_GeneratorDiagram : FuncId := 41
theorem hf_i_GeneratorDiagram : Try.prog.funcs[41]? = some Try.f41 := Try.func41
theorem hc_i_GeneratorDiagram : ∀ us w, (callFunc 41 us).run Try.prog w = .ok (.enter 41 us) w := Try.call41
abbrev n_s_GeneratorDiagram : FuncId := 42
theorem hf_s_GeneratorDiagram : Try.prog.funcs[42]? = some Try.f42 := Try.func42
theorem hc_s_GeneratorDiagram : ∀ us w, (callFunc 42 us).run Try.prog w = .ok (.enter 42 us) w := Try.call42
abbrev n_i_MultiplyDiagrams : FuncId := 43
theorem hf_i_MultiplyDiagrams : Try.prog.funcs[43]? = some Try.f43 := Try.func43
theorem hc_i_MultiplyDiagrams : ∀ us w, (callFunc 43 us).run Try.prog w = .ok (.enter 43 us) w := Try.call43
abbrev n_s_DrawMultiplyDiagrams : FuncId := 44
theorem hf_s_DrawMultiplyDiagrams : Try.prog.funcs[44]? = some Try.f44 := Try.func44
theorem hc_s_DrawMultiplyDiagrams : ∀ us w, (callFunc 44 us).run Try.prog w = .ok (.enter 44 us) w := Try.call44
abbrev n_s_MultiplyDiagrams : FuncId := 45
theorem hf_s_MultiplyDiagrams : Try.prog.funcs[45]? = some Try.f45 := Try.func45
theorem hc_s_MultiplyDiagrams : ∀ us w, (callFunc 45 us).run Try.prog w = .ok (.enter 45 us) w := Try.call45
abbrev n_i_IsDiagram : FuncId := 46
theorem hf_i_IsDiagram : Try.prog.funcs[46]? = some Try.f46 := Try.func46
theorem hc_i_IsDiagram : ∀ us w, (callFunc 46 us).run Try.prog w = .ok (.enter 46 us) w := Try.call46
abbrev n_s_IsDiagram : FuncId := 47
theorem hf_s_IsDiagram : Try.prog.funcs[47]? = some Try.f47 := Try.func47
theorem hc_s_IsDiagram : ∀ us w, (callFunc 47 us).run Try.prog w = .ok (.enter 47 us) w := Try.call47
abbrev n_i_FlipDiagram : FuncId := 48
theorem hf_i_FlipDiagram : Try.prog.funcs[48]? = some Try.f48 := Try.func48
theorem hc_i_FlipDiagram : ∀ us w, (callFunc 48 us).run Try.prog w = .ok (.enter 48 us) w := Try.call48
abbrev n_i_UnitDiagram : FuncId := 49
theorem hf_i_UnitDiagram : Try.prog.funcs[49]? = some Try.f49 := Try.func49
theorem hc_i_UnitDiagram : ∀ us w, (callFunc 49 us).run Try.prog w = .ok (.enter 49 us) w := Try.call49
abbrev n_i_ThroughLines : FuncId := 50
theorem hf_i_ThroughLines : Try.prog.funcs[50]? = some Try.f50 := Try.func50
theorem hc_i_ThroughLines : ∀ us w, (callFunc 50 us).run Try.prog w = .ok (.enter 50 us) w := Try.call50
abbrev n_s_DrawFlipDiagram : FuncId := 51
theorem hf_s_DrawFlipDiagram : Try.prog.funcs[51]? = some Try.f51 := Try.func51
theorem hc_s_DrawFlipDiagram : ∀ us w, (callFunc 51 us).run Try.prog w = .ok (.enter 51 us) w := Try.call51
abbrev n_s_FlipDiagram : FuncId := 52
theorem hf_s_FlipDiagram : Try.prog.funcs[52]? = some Try.f52 := Try.func52
theorem hc_s_FlipDiagram : ∀ us w, (callFunc 52 us).run Try.prog w = .ok (.enter 52 us) w := Try.call52
abbrev n_s_DrawThroughLines : FuncId := 53
theorem hf_s_DrawThroughLines : Try.prog.funcs[53]? = some Try.f53 := Try.func53
theorem hc_s_DrawThroughLines : ∀ us w, (callFunc 53 us).run Try.prog w = .ok (.enter 53 us) w := Try.call53
abbrev n_s_ThroughLines : FuncId := 54
theorem hf_s_ThroughLines : Try.prog.funcs[54]? = some Try.f54 := Try.func54
theorem hc_s_ThroughLines : ∀ us w, (callFunc 54 us).run Try.prog w = .ok (.enter 54 us) w := Try.call54
abbrev n_s_DrawUnitDiagram : FuncId := 55
theorem hf_s_DrawUnitDiagram : Try.prog.funcs[55]? = some Try.f55 := Try.func55
theorem hc_s_DrawUnitDiagram : ∀ us w, (callFunc 55 us).run Try.prog w = .ok (.enter 55 us) w := Try.call55
abbrev n_s_UnitDiagram : FuncId := 56
theorem hf_s_UnitDiagram : Try.prog.funcs[56]? = some Try.f56 := Try.func56
theorem hc_s_UnitDiagram : ∀ us w, (callFunc 56 us).run Try.prog w = .ok (.enter 56 us) w := Try.call56
abbrev n_s_DrawNumberOfDiagram : FuncId := 57
theorem hf_s_DrawNumberOfDiagram : Try.prog.funcs[57]? = some Try.f57 := Try.func57
theorem hc_s_DrawNumberOfDiagram : ∀ us w, (callFunc 57 us).run Try.prog w = .ok (.enter 57 us) w := Try.call57
abbrev n_i_NumberOfDiagram : FuncId := 58
theorem hf_i_NumberOfDiagram : Try.prog.funcs[58]? = some Try.f58 := Try.func58
theorem hc_i_NumberOfDiagram : ∀ us w, (callFunc 58 us).run Try.prog w = .ok (.enter 58 us) w := Try.call58
abbrev n_s_NumberOfDiagram : FuncId := 59
theorem hf_s_NumberOfDiagram : Try.prog.funcs[59]? = some Try.f59 := Try.func59
theorem hc_s_NumberOfDiagram : ∀ us w, (callFunc 59 us).run Try.prog w = .ok (.enter 59 us) w := Try.call59
abbrev n_i_DiagramOfNumber : FuncId := 60
theorem hf_i_DiagramOfNumber : Try.prog.funcs[60]? = some Try.f60 := Try.func60
theorem hc_i_DiagramOfNumber : ∀ us w, (callFunc 60 us).run Try.prog w = .ok (.enter 60 us) w := Try.call60
abbrev n_i_DiagramText : FuncId := 61
theorem hf_i_DiagramText : Try.prog.funcs[61]? = some Try.f61 := Try.func61
theorem hc_i_DiagramText : ∀ us w, (callFunc 61 us).run Try.prog w = .ok (.enter 61 us) w := Try.call61
abbrev n_i_ParseDiagram : FuncId := 62
theorem hf_i_ParseDiagram : Try.prog.funcs[62]? = some Try.f62 := Try.func62
theorem hc_i_ParseDiagram : ∀ us w, (callFunc 62 us).run Try.prog w = .ok (.enter 62 us) w := Try.call62
abbrev n_s_DrawAllDiagrams : FuncId := 63
theorem hf_s_DrawAllDiagrams : Try.prog.funcs[63]? = some Try.f63 := Try.func63
theorem hc_s_DrawAllDiagrams : ∀ us w, (callFunc 63 us).run Try.prog w = .ok (.enter 63 us) w := Try.call63
abbrev n_i_AllDiagrams : FuncId := 64
theorem hf_i_AllDiagrams : Try.prog.funcs[64]? = some Try.f64 := Try.func64
theorem hc_i_AllDiagrams : ∀ us w, (callFunc 64 us).run Try.prog w = .ok (.enter 64 us) w := Try.call64
abbrev n_s_AllDiagrams : FuncId := 65
theorem hf_s_AllDiagrams : Try.prog.funcs[65]? = some Try.f65 := Try.func65
theorem hc_s_AllDiagrams : ∀ us w, (callFunc 65 us).run Try.prog w = .ok (.enter 65 us) w := Try.call65
abbrev n_l_diagrams5 : FuncId := 66
theorem hf_l_diagrams5 : Try.prog.funcs[66]? = some Try.f66 := Try.func66
theorem hc_l_diagrams5 : ∀ us w, (callFunc 66 us).run Try.prog w = .ok (.enter 66 us) w := Try.call66
abbrev n_s_DrawDiagramOfNumber : FuncId := 67
theorem hf_s_DrawDiagramOfNumber : Try.prog.funcs[67]? = some Try.f67 := Try.func67
theorem hc_s_DrawDiagramOfNumber : ∀ us w, (callFunc 67 us).run Try.prog w = .ok (.enter 67 us) w := Try.call67
abbrev n_s_DiagramOfNumber : FuncId := 68
theorem hf_s_DiagramOfNumber : Try.prog.funcs[68]? = some Try.f68 := Try.func68
theorem hc_s_DiagramOfNumber : ∀ us w, (callFunc 68 us).run Try.prog w = .ok (.enter 68 us) w := Try.call68
abbrev n_s_DrawDiagramText : FuncId := 69
theorem hf_s_DrawDiagramText : Try.prog.funcs[69]? = some Try.f69 := Try.func69
theorem hc_s_DrawDiagramText : ∀ us w, (callFunc 69 us).run Try.prog w = .ok (.enter 69 us) w := Try.call69
abbrev n_s_DiagramText : FuncId := 70
theorem hf_s_DiagramText : Try.prog.funcs[70]? = some Try.f70 := Try.func70
theorem hc_s_DiagramText : ∀ us w, (callFunc 70 us).run Try.prog w = .ok (.enter 70 us) w := Try.call70
abbrev n_s_DrawParseDiagram : FuncId := 71
theorem hf_s_DrawParseDiagram : Try.prog.funcs[71]? = some Try.f71 := Try.func71
theorem hc_s_DrawParseDiagram : ∀ us w, (callFunc 71 us).run Try.prog w = .ok (.enter 71 us) w := Try.call71
abbrev n_s_ParseDiagram : FuncId := 72
theorem hf_s_ParseDiagram : Try.prog.funcs[72]? = some Try.f72 := Try.func72
theorem hc_s_ParseDiagram : ∀ us w, (callFunc 72 us).run Try.prog w = .ok (.enter 72 us) w := Try.call72
abbrev n_s_l01Is : FuncId := 73
theorem hf_s_l01Is : Try.prog.funcs[73]? = some Try.f73 := Try.func73
theorem hc_s_l01Is : ∀ us w, (callFunc 73 us).run Try.prog w = .ok (.enter 73 us) w := Try.call73
abbrev n_s_l03Normal : FuncId := 74
theorem hf_s_l03Normal : Try.prog.funcs[74]? = some Try.f74 := Try.func74
theorem hc_s_l03Normal : ∀ us w, (callFunc 74 us).run Try.prog w = .ok (.enter 74 us) w := Try.call74
abbrev n_l_toByteA16 : FuncId := 75
theorem hf_l_toByteA16 : Try.prog.funcs[75]? = some Try.f75 := Try.func75
theorem hc_l_toByteA16 : ∀ us w, (callFunc 75 us).run Try.prog w = .ok (.enter 75 us) w := Try.call75
abbrev n_i_invalid : FuncId := 76
theorem hf_i_invalid : Try.prog.funcs[76]? = some Try.f76 := Try.func76
theorem hc_i_invalid : ∀ us w, (callFunc 76 us).run Try.prog w = .ok (.enter 76 us) w := Try.call76
abbrev n_i_shortestOf : FuncId := 77
theorem hf_i_shortestOf : Try.prog.funcs[77]? = some Try.f77 := Try.func77
theorem hc_i_shortestOf : ∀ us w, (callFunc 77 us).run Try.prog w = .ok (.enter 77 us) w := Try.call77
abbrev n_s_l03Is : FuncId := 78
theorem hf_s_l03Is : Try.prog.funcs[78]? = some Try.f78 := Try.func78
theorem hc_s_l03Is : ∀ us w, (callFunc 78 us).run Try.prog w = .ok (.enter 78 us) w := Try.call78
abbrev n_s_l03Value : FuncId := 79
theorem hf_s_l03Value : Try.prog.funcs[79]? = some Try.f79 := Try.func79
theorem hc_s_l03Value : ∀ us w, (callFunc 79 us).run Try.prog w = .ok (.enter 79 us) w := Try.call79
abbrev n_i_wordOk : FuncId := 80
theorem hf_i_wordOk : Try.prog.funcs[80]? = some Try.f80 := Try.func80
theorem hc_i_wordOk : ∀ us w, (callFunc 80 us).run Try.prog w = .ok (.enter 80 us) w := Try.call80
abbrev n_i_value : FuncId := 81
theorem hf_i_value : Try.prog.funcs[81]? = some Try.f81 := Try.func81
theorem hc_i_value : ∀ us w, (callFunc 81 us).run Try.prog w = .ok (.enter 81 us) w := Try.call81
abbrev n_s_l01In : FuncId := 82
theorem hf_s_l01In : Try.prog.funcs[82]? = some Try.f82 := Try.func82
theorem hc_s_l01In : ∀ us w, (callFunc 82 us).run Try.prog w = .ok (.enter 82 us) w := Try.call82
abbrev n_s_l03Grow : FuncId := 83
theorem hf_s_l03Grow : Try.prog.funcs[83]? = some Try.f83 := Try.func83
theorem hc_s_l03Grow : ∀ us w, (callFunc 83 us).run Try.prog w = .ok (.enter 83 us) w := Try.call83
abbrev n_i_in : FuncId := 84
theorem hf_i_in : Try.prog.funcs[84]? = some Try.f84 := Try.func84
theorem hc_i_in : ∀ us w, (callFunc 84 us).run Try.prog w = .ok (.enter 84 us) w := Try.call84
abbrev n_i_search : FuncId := 85
theorem hf_i_search : Try.prog.funcs[85]? = some Try.f85 := Try.func85
theorem hc_i_search : ∀ us w, (callFunc 85 us).run Try.prog w = .ok (.enter 85 us) w := Try.call85
abbrev n_s_l01Spoil : FuncId := 86
theorem hf_s_l01Spoil : Try.prog.funcs[86]? = some Try.f86 := Try.func86
theorem hc_s_l01Spoil : ∀ us w, (callFunc 86 us).run Try.prog w = .ok (.enter 86 us) w := Try.call86
abbrev n_s_l01From : FuncId := 87
theorem hf_s_l01From : Try.prog.funcs[87]? = some Try.f87 := Try.func87
theorem hc_s_l01From : ∀ us w, (callFunc 87 us).run Try.prog w = .ok (.enter 87 us) w := Try.call87
abbrev n_i_Diagram_n : FuncId := 88
theorem hf_i_Diagram_n : Try.prog.funcs[88]? = some Try.f88 := Try.func88
theorem hc_i_Diagram_n : ∀ us w, (callFunc 88 us).run Try.prog w = .ok (.enter 88 us) w := Try.call88
abbrev n_i_Diagram_moved : FuncId := 89
theorem hf_i_Diagram_moved : Try.prog.funcs[89]? = some Try.f89 := Try.func89
theorem hc_i_Diagram_moved : ∀ us w, (callFunc 89 us).run Try.prog w = .ok (.enter 89 us) w := Try.call89
abbrev n_i_TurnDiagram_1 : FuncId := 90
theorem hf_i_TurnDiagram_1 : Try.prog.funcs[90]? = some Try.f90 := Try.func90
theorem hc_i_TurnDiagram_1 : ∀ us w, (callFunc 90 us).run Try.prog w = .ok (.enter 90 us) w := Try.call90
abbrev n_i_placeOf : FuncId := 91
theorem hf_i_placeOf : Try.prog.funcs[91]? = some Try.f91 := Try.func91
theorem hc_i_placeOf : ∀ us w, (callFunc 91 us).run Try.prog w = .ok (.enter 91 us) w := Try.call91
abbrev n_s_l01Place : FuncId := 92
theorem hf_s_l01Place : Try.prog.funcs[92]? = some Try.f92 := Try.func92
theorem hc_s_l01Place : ∀ us w, (callFunc 92 us).run Try.prog w = .ok (.enter 92 us) w := Try.call92
abbrev n_i_MirrorDiagram_1 : FuncId := 93
theorem hf_i_MirrorDiagram_1 : Try.prog.funcs[93]? = some Try.f93 := Try.func93
theorem hc_i_MirrorDiagram_1 : ∀ us w, (callFunc 93 us).run Try.prog w = .ok (.enter 93 us) w := Try.call93
abbrev n_i_loops : FuncId := 94
theorem hf_i_loops : Try.prog.funcs[94]? = some Try.f94 := Try.func94
theorem hc_i_loops : ∀ us w, (callFunc 94 us).run Try.prog w = .ok (.enter 94 us) w := Try.call94
abbrev n_s_l01Closure : FuncId := 95
theorem hf_s_l01Closure : Try.prog.funcs[95]? = some Try.f95 := Try.func95
theorem hc_s_l01Closure : ∀ us w, (callFunc 95 us).run Try.prog w = .ok (.enter 95 us) w := Try.call95
abbrev n_s_l01Next : FuncId := 96
theorem hf_s_l01Next : Try.prog.funcs[96]? = some Try.f96 := Try.func96
theorem hc_s_l01Next : ∀ us w, (callFunc 96 us).run Try.prog w = .ok (.enter 96 us) w := Try.call96
abbrev n_s_l01Bad : FuncId := 97
theorem hf_s_l01Bad : Try.prog.funcs[97]? = some Try.f97 := Try.func97
theorem hc_s_l01Bad : ∀ us w, (callFunc 97 us).run Try.prog w = .ok (.enter 97 us) w := Try.call97
abbrev n_s_l01DrawOf : FuncId := 98
theorem hf_s_l01DrawOf : Try.prog.funcs[98]? = some Try.f98 := Try.func98
theorem hc_s_l01DrawOf : ∀ us w, (callFunc 98 us).run Try.prog w = .ok (.enter 98 us) w := Try.call98
abbrev n_i_union : FuncId := 99
theorem hf_i_union : Try.prog.funcs[99]? = some Try.f99 := Try.func99
theorem hc_i_union : ∀ us w, (callFunc 99 us).run Try.prog w = .ok (.enter 99 us) w := Try.call99
abbrev n_s_l01Join : FuncId := 100
theorem hf_s_l01Join : Try.prog.funcs[100]? = some Try.f100 := Try.func100
theorem hc_s_l01Join : ∀ us w, (callFunc 100 us).run Try.prog w = .ok (.enter 100 us) w := Try.call100
abbrev n_s_l01Moved : FuncId := 101
theorem hf_s_l01Moved : Try.prog.funcs[101]? = some Try.f101 := Try.func101
theorem hc_s_l01Moved : ∀ us w, (callFunc 101 us).run Try.prog w = .ok (.enter 101 us) w := Try.call101
abbrev n_s_l01Near : FuncId := 102
theorem hf_s_l01Near : Try.prog.funcs[102]? = some Try.f102 := Try.func102
theorem hc_s_l01Near : ∀ us w, (callFunc 102 us).run Try.prog w = .ok (.enter 102 us) w := Try.call102
abbrev n_i_generator : FuncId := 103
theorem hf_i_generator : Try.prog.funcs[103]? = some Try.f103 := Try.func103
theorem hc_i_generator : ∀ us w, (callFunc 103 us).run Try.prog w = .ok (.enter 103 us) w := Try.call103
abbrev n_s_l01Cup : FuncId := 104
theorem hf_s_l01Cup : Try.prog.funcs[104]? = some Try.f104 := Try.func104
theorem hc_s_l01Cup : ∀ us w, (callFunc 104 us).run Try.prog w = .ok (.enter 104 us) w := Try.call104
abbrev n_i_times : FuncId := 105
theorem hf_i_times : Try.prog.funcs[105]? = some Try.f105 := Try.func105
theorem hc_i_times : ∀ us w, (callFunc 105 us).run Try.prog w = .ok (.enter 105 us) w := Try.call105
abbrev n_s_l01Two : FuncId := 106
theorem hf_s_l01Two : Try.prog.funcs[106]? = some Try.f106 := Try.func106
theorem hc_s_l01Two : ∀ us w, (callFunc 106 us).run Try.prog w = .ok (.enter 106 us) w := Try.call106
abbrev n_s_l01Pair : FuncId := 107
theorem hf_s_l01Pair : Try.prog.funcs[107]? = some Try.f107 := Try.func107
theorem hc_s_l01Pair : ∀ us w, (callFunc 107 us).run Try.prog w = .ok (.enter 107 us) w := Try.call107
abbrev n_s_l01Times : FuncId := 108
theorem hf_s_l01Times : Try.prog.funcs[108]? = some Try.f108 := Try.func108
theorem hc_s_l01Times : ∀ us w, (callFunc 108 us).run Try.prog w = .ok (.enter 108 us) w := Try.call108
abbrev n_i_read : FuncId := 109
theorem hf_i_read : Try.prog.funcs[109]? = some Try.f109 := Try.func109
theorem hc_i_read : ∀ us w, (callFunc 109 us).run Try.prog w = .ok (.enter 109 us) w := Try.call109
abbrev n_i_Diagram_text : FuncId := 110
theorem hf_i_Diagram_text : Try.prog.funcs[110]? = some Try.f110 := Try.func110
theorem hc_i_Diagram_text : ∀ us w, (callFunc 110 us).run Try.prog w = .ok (.enter 110 us) w := Try.call110
abbrev n_i_flip : FuncId := 111
theorem hf_i_flip : Try.prog.funcs[111]? = some Try.f111 := Try.func111
theorem hc_i_flip : ∀ us w, (callFunc 111 us).run Try.prog w = .ok (.enter 111 us) w := Try.call111
abbrev n_i_unit : FuncId := 112
theorem hf_i_unit : Try.prog.funcs[112]? = some Try.f112 := Try.func112
theorem hc_i_unit : ∀ us w, (callFunc 112 us).run Try.prog w = .ok (.enter 112 us) w := Try.call112
abbrev n_s_l01Flip : FuncId := 113
theorem hf_s_l01Flip : Try.prog.funcs[113]? = some Try.f113 := Try.func113
theorem hc_s_l01Flip : ∀ us w, (callFunc 113 us).run Try.prog w = .ok (.enter 113 us) w := Try.call113
abbrev n_s_l01Through : FuncId := 114
theorem hf_s_l01Through : Try.prog.funcs[114]? = some Try.f114 := Try.func114
theorem hc_s_l01Through : ∀ us w, (callFunc 114 us).run Try.prog w = .ok (.enter 114 us) w := Try.call114
abbrev n_s_l01One : FuncId := 115
theorem hf_s_l01One : Try.prog.funcs[115]? = some Try.f115 := Try.func115
theorem hc_s_l01One : ∀ us w, (callFunc 115 us).run Try.prog w = .ok (.enter 115 us) w := Try.call115
abbrev n_g_BinarySearchFunc_string : FuncId := 116
theorem hf_g_BinarySearchFunc_string : Try.prog.funcs[116]? = some Try.f116 := Try.func116
theorem hc_g_BinarySearchFunc_string : ∀ us w, (callFunc 116 us).run Try.prog w = .ok (.enter 116 us) w := Try.call116
abbrev n_i_bracketings : FuncId := 117
theorem hf_i_bracketings : Try.prog.funcs[117]? = some Try.f117 := Try.func117
theorem hc_i_bracketings : ∀ us w, (callFunc 117 us).run Try.prog w = .ok (.enter 117 us) w := Try.call117
abbrev n_strings_Compare : FuncId := 118
theorem hf_strings_Compare : Try.prog.funcs[118]? = some Try.f118 := Try.func118
theorem hc_strings_Compare : ∀ us w, (callFunc 118 us).run Try.prog w = .ok (.enter 118 us) w := Try.call118
abbrev n_s_l01Text : FuncId := 119
theorem hf_s_l01Text : Try.prog.funcs[119]? = some Try.f119 := Try.func119
theorem hc_s_l01Text : ∀ us w, (callFunc 119 us).run Try.prog w = .ok (.enter 119 us) w := Try.call119
abbrev n_s_l01Ways : FuncId := 120
theorem hf_s_l01Ways : Try.prog.funcs[120]? = some Try.f120 := Try.func120
theorem hc_s_l01Ways : ∀ us w, (callFunc 120 us).run Try.prog w = .ok (.enter 120 us) w := Try.call120
abbrev n_i_allDiagrams : FuncId := 121
theorem hf_i_allDiagrams : Try.prog.funcs[121]? = some Try.f121 := Try.func121
theorem hc_i_allDiagrams : ∀ us w, (callFunc 121 us).run Try.prog w = .ok (.enter 121 us) w := Try.call121
abbrev n_s_l01All : FuncId := 122
theorem hf_s_l01All : Try.prog.funcs[122]? = some Try.f122 := Try.func122
theorem hc_s_l01All : ∀ us w, (callFunc 122 us).run Try.prog w = .ok (.enter 122 us) w := Try.call122
abbrev n_s_l01Read : FuncId := 123
theorem hf_s_l01Read : Try.prog.funcs[123]? = some Try.f123 := Try.func123
theorem hc_s_l01Read : ∀ us w, (callFunc 123 us).run Try.prog w = .ok (.enter 123 us) w := Try.call123
abbrev n_s_l01Draw : FuncId := 124
theorem hf_s_l01Draw : Try.prog.funcs[124]? = some Try.f124 := Try.func124
theorem hc_s_l01Draw : ∀ us w, (callFunc 124 us).run Try.prog w = .ok (.enter 124 us) w := Try.call124
abbrev n_s_l01Damage : FuncId := 125
theorem hf_s_l01Damage : Try.prog.funcs[125]? = some Try.f125 := Try.func125
theorem hc_s_l01Damage : ∀ us w, (callFunc 125 us).run Try.prog w = .ok (.enter 125 us) w := Try.call125
abbrev n_s_l01Ends : FuncId := 126
theorem hf_s_l01Ends : Try.prog.funcs[126]? = some Try.f126 := Try.func126
theorem hc_s_l01Ends : ∀ us w, (callFunc 126 us).run Try.prog w = .ok (.enter 126 us) w := Try.call126
abbrev n_s_l03Find : FuncId := 127
theorem hf_s_l03Find : Try.prog.funcs[127]? = some Try.f127 := Try.func127
theorem hc_s_l03Find : ∀ us w, (callFunc 127 us).run Try.prog w = .ok (.enter 127 us) w := Try.call127
abbrev n_g_ContainsFunc_Diagram : FuncId := 128
theorem hf_g_ContainsFunc_Diagram : Try.prog.funcs[128]? = some Try.f128 := Try.func128
theorem hc_g_ContainsFunc_Diagram : ∀ us w, (callFunc 128 us).run Try.prog w = .ok (.enter 128 us) w := Try.call128
abbrev n_i_invalid_1 : FuncId := 129
theorem hf_i_invalid_1 : Try.prog.funcs[129]? = some Try.f129 := Try.func129
theorem hc_i_invalid_1 : ∀ us w, (callFunc 129 us).run Try.prog w = .ok (.enter 129 us) w := Try.call129
abbrev n_g_ContainsFunc_int64 : FuncId := 130
theorem hf_g_ContainsFunc_int64 : Try.prog.funcs[130]? = some Try.f130 := Try.func130
theorem hc_g_ContainsFunc_int64 : ∀ us w, (callFunc 130 us).run Try.prog w = .ok (.enter 130 us) w := Try.call130
abbrev n_i_wordOk_1 : FuncId := 131
theorem hf_i_wordOk_1 : Try.prog.funcs[131]? = some Try.f131 := Try.func131
theorem hc_i_wordOk_1 : ∀ us w, (callFunc 131 us).run Try.prog w = .ok (.enter 131 us) w := Try.call131
abbrev n_s_l03Number : FuncId := 132
theorem hf_s_l03Number : Try.prog.funcs[132]? = some Try.f132 := Try.func132
theorem hc_s_l03Number : ∀ us w, (callFunc 132 us).run Try.prog w = .ok (.enter 132 us) w := Try.call132
abbrev n_g_Compare_int64 : FuncId := 133
theorem hf_g_Compare_int64 : Try.prog.funcs[133]? = some Try.f133 := Try.func133
theorem hc_g_Compare_int64 : ∀ us w, (callFunc 133 us).run Try.prog w = .ok (.enter 133 us) w := Try.call133
abbrev n_i_Diagram_closure : FuncId := 134
theorem hf_i_Diagram_closure : Try.prog.funcs[134]? = some Try.f134 := Try.func134
theorem hc_i_Diagram_closure : ∀ us w, (callFunc 134 us).run Try.prog w = .ok (.enter 134 us) w := Try.call134
abbrev n_i_loops_1 : FuncId := 135
theorem hf_i_loops_1 : Try.prog.funcs[135]? = some Try.f135 := Try.func135
theorem hc_i_loops_1 : ∀ us w, (callFunc 135 us).run Try.prog w = .ok (.enter 135 us) w := Try.call135
abbrev n_i_loops_2 : FuncId := 136
theorem hf_i_loops_2 : Try.prog.funcs[136]? = some Try.f136 := Try.func136
theorem hc_i_loops_2 : ∀ us w, (callFunc 136 us).run Try.prog w = .ok (.enter 136 us) w := Try.call136
abbrev n_s_l01Pick : FuncId := 137
theorem hf_s_l01Pick : Try.prog.funcs[137]? = some Try.f137 := Try.func137
theorem hc_s_l01Pick : ∀ us w, (callFunc 137 us).run Try.prog w = .ok (.enter 137 us) w := Try.call137
abbrev n_i_union_1 : FuncId := 138
theorem hf_i_union_1 : Try.prog.funcs[138]? = some Try.f138 := Try.func138
theorem hc_i_union_1 : ∀ us w, (callFunc 138 us).run Try.prog w = .ok (.enter 138 us) w := Try.call138
abbrev n_i_union_2 : FuncId := 139
theorem hf_i_union_2 : Try.prog.funcs[139]? = some Try.f139 := Try.func139
theorem hc_i_union_2 : ∀ us w, (callFunc 139 us).run Try.prog w = .ok (.enter 139 us) w := Try.call139
abbrev n_i_Diagram_join : FuncId := 140
theorem hf_i_Diagram_join : Try.prog.funcs[140]? = some Try.f140 := Try.func140
theorem hc_i_Diagram_join : ∀ us w, (callFunc 140 us).run Try.prog w = .ok (.enter 140 us) w := Try.call140
abbrev n_i_product : FuncId := 141
theorem hf_i_product : Try.prog.funcs[141]? = some Try.f141 := Try.func141
theorem hc_i_product : ∀ us w, (callFunc 141 us).run Try.prog w = .ok (.enter 141 us) w := Try.call141
abbrev n_i_times_1 : FuncId := 142
theorem hf_i_times_1 : Try.prog.funcs[142]? = some Try.f142 := Try.func142
theorem hc_i_times_1 : ∀ us w, (callFunc 142 us).run Try.prog w = .ok (.enter 142 us) w := Try.call142
abbrev n_i_times_2 : FuncId := 143
theorem hf_i_times_2 : Try.prog.funcs[143]? = some Try.f143 := Try.func143
theorem hc_i_times_2 : ∀ us w, (callFunc 143 us).run Try.prog w = .ok (.enter 143 us) w := Try.call143
abbrev n_i_times_3 : FuncId := 144
theorem hf_i_times_3 : Try.prog.funcs[144]? = some Try.f144 := Try.func144
theorem hc_i_times_3 : ∀ us w, (callFunc 144 us).run Try.prog w = .ok (.enter 144 us) w := Try.call144
abbrev n_s_l01Follow : FuncId := 145
theorem hf_s_l01Follow : Try.prog.funcs[145]? = some Try.f145 := Try.func145
theorem hc_s_l01Follow : ∀ us w, (callFunc 145 us).run Try.prog w = .ok (.enter 145 us) w := Try.call145
abbrev n_i_partners : FuncId := 146
theorem hf_i_partners : Try.prog.funcs[146]? = some Try.f146 := Try.func146
theorem hc_i_partners : ∀ us w, (callFunc 146 us).run Try.prog w = .ok (.enter 146 us) w := Try.call146
abbrev n_i_joined : FuncId := 147
theorem hf_i_joined : Try.prog.funcs[147]? = some Try.f147 := Try.func147
theorem hc_i_joined : ∀ us w, (callFunc 147 us).run Try.prog w = .ok (.enter 147 us) w := Try.call147
abbrev n_i_flip_1 : FuncId := 148
theorem hf_i_flip_1 : Try.prog.funcs[148]? = some Try.f148 := Try.func148
theorem hc_i_flip_1 : ∀ us w, (callFunc 148 us).run Try.prog w = .ok (.enter 148 us) w := Try.call148
abbrev n_i_bracketings_1 : FuncId := 149
theorem hf_i_bracketings_1 : Try.prog.funcs[149]? = some Try.f149 := Try.func149
theorem hc_i_bracketings_1 : ∀ us w, (callFunc 149 us).run Try.prog w = .ok (.enter 149 us) w := Try.call149
abbrev n_internal_bytealg_CompareString : FuncId := 150
theorem hf_internal_bytealg_CompareString : Try.prog.funcs[150]? = some Try.f150 := Try.func150
theorem hc_internal_bytealg_CompareString : ∀ us w, (callFunc 150 us).run Try.prog w = .ok (.enter 150 us) w := Try.call150
abbrev n_s_l01Texts : FuncId := 151
theorem hf_s_l01Texts : Try.prog.funcs[151]? = some Try.f151 := Try.func151
theorem hc_s_l01Texts : ∀ us w, (callFunc 151 us).run Try.prog w = .ok (.enter 151 us) w := Try.call151
abbrev n_s_l01DrawSize : FuncId := 152
theorem hf_s_l01DrawSize : Try.prog.funcs[152]? = some Try.f152 := Try.func152
theorem hc_s_l01DrawSize : ∀ us w, (callFunc 152 us).run Try.prog w = .ok (.enter 152 us) w := Try.call152
abbrev n_g_IndexFunc_Diagram : FuncId := 153
theorem hf_g_IndexFunc_Diagram : Try.prog.funcs[153]? = some Try.f153 := Try.func153
theorem hc_g_IndexFunc_Diagram : ∀ us w, (callFunc 153 us).run Try.prog w = .ok (.enter 153 us) w := Try.call153
abbrev n_g_IndexFunc_int64 : FuncId := 154
theorem hf_g_IndexFunc_int64 : Try.prog.funcs[154]? = some Try.f154 := Try.func154
theorem hc_g_IndexFunc_int64 : ∀ us w, (callFunc 154 us).run Try.prog w = .ok (.enter 154 us) w := Try.call154
abbrev n_g_Compare_int64_155 : FuncId := 155
theorem hf_g_Compare_int64_155 : Try.prog.funcs[155]? = some Try.f155 := Try.func155
theorem hc_g_Compare_int64_155 : ∀ us w, (callFunc 155 us).run Try.prog w = .ok (.enter 155 us) w := Try.call155
abbrev n_i_stack_follow : FuncId := 156
theorem hf_i_stack_follow : Try.prog.funcs[156]? = some Try.f156 := Try.func156
theorem hc_i_stack_follow : ∀ us w, (callFunc 156 us).run Try.prog w = .ok (.enter 156 us) w := Try.call156
abbrev n_g_isNaN_int64 : FuncId := 158
theorem hf_g_isNaN_int64 : Try.prog.funcs[158]? = some Try.f158 := Try.func158
theorem hc_g_isNaN_int64 : ∀ us w, (callFunc 158 us).run Try.prog w = .ok (.enter 158 us) w := Try.call158
abbrev T_f_ : TypeId := 1
abbrev T_int64 : TypeId := 2
abbrev T_int : TypeId := 3
abbrev T_bool : TypeId := 4
abbrev T_uint8 : TypeId := 5
abbrev T_string : TypeId := 9
abbrev T_a16q_uint8 : TypeId := 22
abbrev T_l_Diagram : TypeId := 24
abbrev T_s_int64 : TypeId := 25
abbrev T_f_impl_Diagram_int64q_int64 : TypeId := 27
abbrev T_i_Diagram : TypeId := 28
theorem eg_i_Diagram : Try.prog.eqGuardType Try.prog.depth 28 = false := Try.eqGuardType28
theorem st_i_Diagram : Try.prog.stoodInHeld 28 = false := Try.stoodInHeld28
abbrev T_f_laws_Diagram_impl_Diagram : TypeId := 29
abbrev T_f_int64q_int64q_bool : TypeId := 30
abbrev T_f_int64q_int_int : TypeId := 31
abbrev T_f_laws_Diagram_bool : TypeId := 32
abbrev T_f_int64q_int64q_int64q_int64q_int64 : TypeId := 36
abbrev T_f_int64q_int64 : TypeId := 37
abbrev T_f_int64q_int64q_bool_int64 : TypeId := 40
abbrev T_f_int64q_int64q_int64 : TypeId := 41
abbrev T_f_int64q_bool : TypeId := 42
abbrev T_s_uint8 : TypeId := 43
abbrev T_f_uint8q_bool : TypeId := 44
abbrev T_f_uint8q_impl_Diagram : TypeId := 45
abbrev T_f_impl_Diagram_impl_Diagram_int64 : TypeId := 47
abbrev T_f_uint8q_impl_Diagram_impl_Diagram : TypeId := 49
abbrev T_f_impl_Diagram_impl_Diagram_impl_Diagram_int64 : TypeId := 50
abbrev T_f_uint8q_int64q_int64 : TypeId := 51
abbrev T_f_int64q_int64q_impl_Diagram_int64 : TypeId := 52
abbrev T_f_impl_Diagram_impl_Diagram_impl_Diagram_int64q_int64 : TypeId := 54
abbrev T_f_impl_Diagram_bool : TypeId := 55
abbrev T_f_int64q_impl_Diagram_int64 : TypeId := 56
abbrev T_f_uint8q_int64 : TypeId := 57
abbrev T_f_impl_Diagram_string_int64 : TypeId := 59
abbrev T_f_string_impl_Diagram_int64 : TypeId := 60
abbrev T_s_i_Diagram : TypeId := 61
abbrev T_f_impl_Diagram_impl_Diagram_bool : TypeId := 64
abbrev T_f_uint8q_string : TypeId := 65
abbrev T_f_16q_uint8q_16q_uint8 : TypeId := 66
abbrev T_f_impl_Diagram_int64 : TypeId := 67
abbrev T_i_shortest : TypeId := 69
abbrev T_f_impl_Diagram_impl_shortest : TypeId := 70
abbrev T_f_int64q_int64q_int64q_bool : TypeId := 72
abbrev T_s_l03Tree : TypeId := 74
abbrev T_f_int64q_impl_Diagram_spec_l03Tree : TypeId := 75
abbrev T_f_int_impl_Diagram_map_impl_Diagram_impl_shortest : TypeId := 77
abbrev T_f_spec_l01Source_impl_Diagram : TypeId := 78
abbrev T_f_uint8q_spec_l01Source : TypeId := 80
abbrev T_f_int : TypeId := 81
abbrev T_f_func_int_int_impl_Diagram : TypeId := 82
abbrev T_f_int_int_int : TypeId := 83
abbrev T_f_int_int : TypeId := 84
abbrev T_f_spec_l01Source_int64q_int64 : TypeId := 87
abbrev T_f_spec_l01Source_impl_Diagram_impl_Diagram : TypeId := 88
abbrev T_f_spec_l01Source_int64q_impl_Diagram : TypeId := 89
abbrev T_f_impl_Diagram_impl_Diagram_impl_Diagram : TypeId := 90
abbrev T_f_impl_Diagram_int64q_int64q_impl_Diagram : TypeId := 91
abbrev T_f_int_int_impl_Diagram : TypeId := 93
abbrev T_f_int64q_int64q_impl_Diagram : TypeId := 94
abbrev T_f_string_impl_Diagram_bool : TypeId := 97
abbrev T_f_string : TypeId := 98
abbrev T_f_impl_Diagram_impl_Diagram : TypeId := 99
abbrev T_f_int_impl_Diagram : TypeId := 100
abbrev T_f_int64q_impl_Diagram : TypeId := 101
abbrev T_f_string_string_func_string_string_int_int_bool : TypeId := 103
abbrev T_s_string : TypeId := 104
abbrev T_f_int_string : TypeId := 105
abbrev T_f_string_string_int : TypeId := 106
abbrev T_f_impl_Diagram_string : TypeId := 107
abbrev T_f_spec_l01Source_string_string : TypeId := 110
abbrev T_f_impl_Diagram_int64q_int64q_int64 : TypeId := 111
abbrev T_f_impl_Diagram_func_impl_Diagram_bool_bool : TypeId := 113
abbrev T_f_int64q_func_int64q_bool_bool : TypeId := 115
abbrev T_f_int64q_int64q_int : TypeId := 117
abbrev T_uint64 : TypeId := 118
abbrev T_s_l01Source : TypeId := 120
abbrev T_f_func_int_func : TypeId := 121
abbrev T_a16q_bool : TypeId := 123
abbrev T_f_impl_Diagram_impl_Diagram_impl_walk_func_int_int_func : TypeId := 127
abbrev T_f_bool_int : TypeId := 128
abbrev T_a8q_bool : TypeId := 129
abbrev T_f_impl_Diagram_impl_Diagram_int64q_bool_8q_bool_int64q_bool : TypeId := 131
abbrev T_s_int : TypeId := 133
abbrev T_f_string_int_bool : TypeId := 135
abbrev T_f_string_int : TypeId := 137
abbrev T_f_string_string_int64q_int64q_string : TypeId := 138
abbrev T_f_spec_l01Source_int64 : TypeId := 139
abbrev T_f_impl_Diagram_func_impl_Diagram_bool_int : TypeId := 140
abbrev T_f_int64q_func_int64q_bool_int : TypeId := 141
abbrev T_i_walk : TypeId := 143
abbrev T_i_stack : TypeId := 146
theorem eg_i_stack : Try.prog.eqGuardType Try.prog.depth 146 = false := Try.eqGuardType146
theorem st_i_stack : Try.prog.stoodInHeld 146 = false := Try.stoodInHeld146
abbrev T_f_bool_int_int_int : TypeId := 147
abbrev T_f_unsafe_Pointer_unsafe_Pointer_bool : TypeId := 156
end Go.Proofs.Ytgpgcdofhkpeaaa.VE
