/- Names for the numbers of the functions and types of this place; nothing else is proved here. -/
import Derived.Test.YtpangmameocfmaaEc
import Derived.Test.YtpangmameocfmaaProg
set_option linter.all false
namespace Go.Proofs.Ytpangmameocfmaa.VE
open Go
abbrev n_l_FnExactParsePartition : FuncId := 3
theorem hf_l_FnExactParsePartition : Try.prog.funcs[3]? = some Try.f3 := Try.func3
theorem hc_l_FnExactParsePartition : ∀ us w, (callFunc 3 us).run Try.prog w = .ok (.enter 3 us) w := Try.call3
abbrev n_l_FnExactPartitionText : FuncId := 4
theorem hf_l_FnExactPartitionText : Try.prog.funcs[4]? = some Try.f4 := Try.func4
theorem hc_l_FnExactPartitionText : ∀ us w, (callFunc 4 us).run Try.prog w = .ok (.enter 4 us) w := Try.call4
abbrev n_l_FnExactThroughParts : FuncId := 5
theorem hf_l_FnExactThroughParts : Try.prog.funcs[5]? = some Try.f5 := Try.func5
theorem hc_l_FnExactThroughParts : ∀ us w, (callFunc 5 us).run Try.prog w = .ok (.enter 5 us) w := Try.call5
abbrev n_l_FnExactFlipPartition : FuncId := 6
theorem hf_l_FnExactFlipPartition : Try.prog.funcs[6]? = some Try.f6 := Try.func6
theorem hc_l_FnExactFlipPartition : ∀ us w, (callFunc 6 us).run Try.prog w = .ok (.enter 6 us) w := Try.call6
abbrev n_l_FnExactUnionPartition : FuncId := 7
theorem hf_l_FnExactUnionPartition : Try.prog.funcs[7]? = some Try.f7 := Try.func7
theorem hc_l_FnExactUnionPartition : ∀ us w, (callFunc 7 us).run Try.prog w = .ok (.enter 7 us) w := Try.call7
abbrev n_l_FnExactMultiplyPartitions : FuncId := 8
theorem hf_l_FnExactMultiplyPartitions : Try.prog.funcs[8]? = some Try.f8 := Try.func8
theorem hc_l_FnExactMultiplyPartitions : ∀ us w, (callFunc 8 us).run Try.prog w = .ok (.enter 8 us) w := Try.call8
abbrev n_l_FnExactKindsOf : FuncId := 9
theorem hf_l_FnExactKindsOf : Try.prog.funcs[9]? = some Try.f9 := Try.func9
theorem hc_l_FnExactKindsOf : ∀ us w, (callFunc 9 us).run Try.prog w = .ok (.enter 9 us) w := Try.call9
abbrev n_l_FnExactCountKinds : FuncId := 10
theorem hf_l_FnExactCountKinds : Try.prog.funcs[10]? = some Try.f10 := Try.func10
theorem hc_l_FnExactCountKinds : ∀ us w, (callFunc 10 us).run Try.prog w = .ok (.enter 10 us) w := Try.call10
abbrev n_l_FnExactPowersOfPartition : FuncId := 11
theorem hf_l_FnExactPowersOfPartition : Try.prog.funcs[11]? = some Try.f11 := Try.func11
theorem hc_l_FnExactPowersOfPartition : ∀ us w, (callFunc 11 us).run Try.prog w = .ok (.enter 11 us) w := Try.call11
abbrev n_l_FnExactSurroundingDiagram : FuncId := 12
theorem hf_l_FnExactSurroundingDiagram : Try.prog.funcs[12]? = some Try.f12 := Try.func12
theorem hc_l_FnExactSurroundingDiagram : ∀ us w, (callFunc 12 us).run Try.prog w = .ok (.enter 12 us) w := Try.call12
abbrev n_l_FnExactDiagramOfPartition : FuncId := 13
theorem hf_l_FnExactDiagramOfPartition : Try.prog.funcs[13]? = some Try.f13 := Try.func13
theorem hc_l_FnExactDiagramOfPartition : ∀ us w, (callFunc 13 us).run Try.prog w = .ok (.enter 13 us) w := Try.call13
abbrev n_l_FnPartitionTexts : FuncId := 14
theorem hf_l_FnPartitionTexts : Try.prog.funcs[14]? = some Try.f14 := Try.func14
theorem hc_l_FnPartitionTexts : ∀ us w, (callFunc 14 us).run Try.prog w = .ok (.enter 14 us) w := Try.call14
abbrev n_s_ParsePartition : FuncId := 15
theorem hf_s_ParsePartition : Try.prog.funcs[15]? = some Try.f15 := Try.func15
theorem hc_s_ParsePartition : ∀ us w, (callFunc 15 us).run Try.prog w = .ok (.enter 15 us) w := Try.call15
abbrev n_i_ParsePartition : FuncId := 16
theorem hf_i_ParsePartition : Try.prog.funcs[16]? = some Try.f16 := Try.func16
theorem hc_i_ParsePartition : ∀ us w, (callFunc 16 us).run Try.prog w = .ok (.enter 16 us) w := Try.call16
abbrev n_l_eqPartition : FuncId := 17
theorem hf_l_eqPartition : Try.prog.funcs[17]? = some Try.f17 := Try.func17
theorem hc_l_eqPartition : ∀ us w, (callFunc 17 us).run Try.prog w = .ok (.enter 17 us) w := Try.call17
abbrev n_s_PartitionText : FuncId := 18
theorem hf_s_PartitionText : Try.prog.funcs[18]? = some Try.f18 := Try.func18
theorem hc_s_PartitionText : ∀ us w, (callFunc 18 us).run Try.prog w = .ok (.enter 18 us) w := Try.call18
abbrev n_l_toPartition : FuncId := 19
theorem hf_l_toPartition : Try.prog.funcs[19]? = some Try.f19 := Try.func19
theorem hc_l_toPartition : ∀ us w, (callFunc 19 us).run Try.prog w = .ok (.enter 19 us) w := Try.call19
abbrev n_i_PartitionText : FuncId := 20
theorem hf_i_PartitionText : Try.prog.funcs[20]? = some Try.f20 := Try.func20
theorem hc_i_PartitionText : ∀ us w, (callFunc 20 us).run Try.prog w = .ok (.enter 20 us) w := Try.call20
abbrev n_s_ThroughParts : FuncId := 21
theorem hf_s_ThroughParts : Try.prog.funcs[21]? = some Try.f21 := Try.func21
theorem hc_s_ThroughParts : ∀ us w, (callFunc 21 us).run Try.prog w = .ok (.enter 21 us) w := Try.call21
abbrev n_i_ThroughParts : FuncId := 22
theorem hf_i_ThroughParts : Try.prog.funcs[22]? = some Try.f22 := Try.func22
theorem hc_i_ThroughParts : ∀ us w, (callFunc 22 us).run Try.prog w = .ok (.enter 22 us) w := Try.call22
abbrev n_s_FlipPartition : FuncId := 23
theorem hf_s_FlipPartition : Try.prog.funcs[23]? = some Try.f23 := Try.func23
theorem hc_s_FlipPartition : ∀ us w, (callFunc 23 us).run Try.prog w = .ok (.enter 23 us) w := Try.call23
abbrev n_i_FlipPartition : FuncId := 24
theorem hf_i_FlipPartition : Try.prog.funcs[24]? = some Try.f24 := Try.func24
theorem hc_i_FlipPartition : ∀ us w, (callFunc 24 us).run Try.prog w = .ok (.enter 24 us) w := Try.call24
abbrev n_s_UnionPartition : FuncId := 25
theorem hf_s_UnionPartition : Try.prog.funcs[25]? = some Try.f25 := Try.func25
theorem hc_s_UnionPartition : ∀ us w, (callFunc 25 us).run Try.prog w = .ok (.enter 25 us) w := Try.call25
abbrev n_i_UnionPartition : FuncId := 26
theorem hf_i_UnionPartition : Try.prog.funcs[26]? = some Try.f26 := Try.func26
theorem hc_i_UnionPartition : ∀ us w, (callFunc 26 us).run Try.prog w = .ok (.enter 26 us) w := Try.call26
abbrev n_s_MultiplyPartitions : FuncId := 27
theorem hf_s_MultiplyPartitions : Try.prog.funcs[27]? = some Try.f27 := Try.func27
theorem hc_s_MultiplyPartitions : ∀ us w, (callFunc 27 us).run Try.prog w = .ok (.enter 27 us) w := Try.call27
abbrev n_i_MultiplyPartitions : FuncId := 28
theorem hf_i_MultiplyPartitions : Try.prog.funcs[28]? = some Try.f28 := Try.func28
theorem hc_i_MultiplyPartitions : ∀ us w, (callFunc 28 us).run Try.prog w = .ok (.enter 28 us) w := Try.call28
abbrev n_s_KindsOf : FuncId := 29
theorem hf_s_KindsOf : Try.prog.funcs[29]? = some Try.f29 := Try.func29
theorem hc_s_KindsOf : ∀ us w, (callFunc 29 us).run Try.prog w = .ok (.enter 29 us) w := Try.call29
abbrev n_i_KindsOf : FuncId := 30
theorem hf_i_KindsOf : Try.prog.funcs[30]? = some Try.f30 := Try.func30
theorem hc_i_KindsOf : ∀ us w, (callFunc 30 us).run Try.prog w = .ok (.enter 30 us) w := Try.call30
abbrev n_l_eqBoolS : FuncId := 31
theorem hf_l_eqBoolS : Try.prog.funcs[31]? = some Try.f31 := Try.func31
theorem hc_l_eqBoolS : ∀ us w, (callFunc 31 us).run Try.prog w = .ok (.enter 31 us) w := Try.call31
abbrev n_l_markBoolS : FuncId := 32
theorem hf_l_markBoolS : Try.prog.funcs[32]? = some Try.f32 := Try.func32
theorem hc_l_markBoolS : ∀ us w, (callFunc 32 us).run Try.prog w = .ok (.enter 32 us) w := Try.call32
abbrev n_l_heldBoolS : FuncId := 33
theorem hf_l_heldBoolS : Try.prog.funcs[33]? = some Try.f33 := Try.func33
theorem hc_l_heldBoolS : ∀ us w, (callFunc 33 us).run Try.prog w = .ok (.enter 33 us) w := Try.call33
abbrev n_s_CountKinds : FuncId := 34
theorem hf_s_CountKinds : Try.prog.funcs[34]? = some Try.f34 := Try.func34
theorem hc_s_CountKinds : ∀ us w, (callFunc 34 us).run Try.prog w = .ok (.enter 34 us) w := Try.call34
abbrev n_i_CountKinds : FuncId := 35
theorem hf_i_CountKinds : Try.prog.funcs[35]? = some Try.f35 := Try.func35
theorem hc_i_CountKinds : ∀ us w, (callFunc 35 us).run Try.prog w = .ok (.enter 35 us) w := Try.call35
abbrev n_l_eqInt64S : FuncId := 36
theorem hf_l_eqInt64S : Try.prog.funcs[36]? = some Try.f36 := Try.func36
theorem hc_l_eqInt64S : ∀ us w, (callFunc 36 us).run Try.prog w = .ok (.enter 36 us) w := Try.call36
abbrev n_l_markInt64S : FuncId := 37
theorem hf_l_markInt64S : Try.prog.funcs[37]? = some Try.f37 := Try.func37
theorem hc_l_markInt64S : ∀ us w, (callFunc 37 us).run Try.prog w = .ok (.enter 37 us) w := Try.call37
abbrev n_l_heldInt64S : FuncId := 38
theorem hf_l_heldInt64S : Try.prog.funcs[38]? = some Try.f38 := Try.func38
theorem hc_l_heldInt64S : ∀ us w, (callFunc 38 us).run Try.prog w = .ok (.enter 38 us) w := Try.call38
abbrev n_s_PowersOfPartition : FuncId := 39
theorem hf_s_PowersOfPartition : Try.prog.funcs[39]? = some Try.f39 := Try.func39
theorem hc_s_PowersOfPartition : ∀ us w, (callFunc 39 us).run Try.prog w = .ok (.enter 39 us) w := Try.call39
abbrev n_i_PowersOfPartition : FuncId := 40
theorem hf_i_PowersOfPartition : Try.prog.funcs[40]? = some Try.f40 := Try.func40
theorem hc_i_PowersOfPartition : ∀ us w, (callFunc 40 us).run Try.prog w = .ok (.enter 40 us) w := Try.call40
abbrev n_s_SurroundingDiagram : FuncId := 41
theorem hf_s_SurroundingDiagram : Try.prog.funcs[41]? = some Try.f41 := Try.func41
theorem hc_s_SurroundingDiagram : ∀ us w, (callFunc 41 us).run Try.prog w = .ok (.enter 41 us) w := Try.call41
abbrev n_i_SurroundingDiagram : FuncId := 42
theorem hf_i_SurroundingDiagram : Try.prog.funcs[42]? = some Try.f42 := Try.func42
theorem hc_i_SurroundingDiagram : ∀ us w, (callFunc 42 us).run Try.prog w = .ok (.enter 42 us) w := Try.call42
abbrev n_l_eqDiagram : FuncId := 43
theorem hf_l_eqDiagram : Try.prog.funcs[43]? = some Try.f43 := Try.func43
theorem hc_l_eqDiagram : ∀ us w, (callFunc 43 us).run Try.prog w = .ok (.enter 43 us) w := Try.call43
abbrev n_s_DiagramOfPartition : FuncId := 44
theorem hf_s_DiagramOfPartition : Try.prog.funcs[44]? = some Try.f44 := Try.func44
theorem hc_s_DiagramOfPartition : ∀ us w, (callFunc 44 us).run Try.prog w = .ok (.enter 44 us) w := Try.call44
abbrev n_i_DiagramOfPartition : FuncId := 45
theorem hf_i_DiagramOfPartition : Try.prog.funcs[45]? = some Try.f45 := Try.func45
theorem hc_i_DiagramOfPartition : ∀ us w, (callFunc 45 us).run Try.prog w = .ok (.enter 45 us) w := Try.call45
abbrev n_l_big : FuncId := 46
theorem hf_l_big : Try.prog.funcs[46]? = some Try.f46 := Try.func46
theorem hc_l_big : ∀ us w, (callFunc 46 us).run Try.prog w = .ok (.enter 46 us) w := Try.call46
abbrev n_s_DrawPowersOfPartition : FuncId := 47
theorem hf_s_DrawPowersOfPartition : Try.prog.funcs[47]? = some Try.f47 := Try.func47
theorem hc_s_DrawPowersOfPartition : ∀ us w, (callFunc 47 us).run Try.prog w = .ok (.enter 47 us) w := Try.call47
abbrev n_l_likeInts : FuncId := 48
theorem hf_l_likeInts : Try.prog.funcs[48]? = some Try.f48 := Try.func48
theorem hc_l_likeInts : ∀ us w, (callFunc 48 us).run Try.prog w = .ok (.enter 48 us) w := Try.call48
abbrev n_s_DrawPartitionText : FuncId := 49
theorem hf_s_DrawPartitionText : Try.prog.funcs[49]? = some Try.f49 := Try.func49
theorem hc_s_DrawPartitionText : ∀ us w, (callFunc 49 us).run Try.prog w = .ok (.enter 49 us) w := Try.call49
abbrev n_s_DrawParsePartition : FuncId := 50
theorem hf_s_DrawParsePartition : Try.prog.funcs[50]? = some Try.f50 := Try.func50
theorem hc_s_DrawParsePartition : ∀ us w, (callFunc 50 us).run Try.prog w = .ok (.enter 50 us) w := Try.call50
abbrev n_s_DrawThroughParts : FuncId := 51
theorem hf_s_DrawThroughParts : Try.prog.funcs[51]? = some Try.f51 := Try.func51
theorem hc_s_DrawThroughParts : ∀ us w, (callFunc 51 us).run Try.prog w = .ok (.enter 51 us) w := Try.call51
abbrev n_s_DrawUnitPartition : FuncId := 52
theorem hf_s_DrawUnitPartition : Try.prog.funcs[52]? = some Try.f52 := Try.func52
theorem hc_s_DrawUnitPartition : ∀ us w, (callFunc 52 us).run Try.prog w = .ok (.enter 52 us) w := Try.call52
abbrev n_i_UnitPartition : FuncId := 53
theorem hf_i_UnitPartition : Try.prog.funcs[53]? = some Try.f53 := Try.func53
theorem hc_i_UnitPartition : ∀ us w, (callFunc 53 us).run Try.prog w = .ok (.enter 53 us) w := Try.call53
abbrev n_s_UnitPartition : FuncId := 54
theorem hf_s_UnitPartition : Try.prog.funcs[54]? = some Try.f54 := Try.func54
theorem hc_s_UnitPartition : ∀ us w, (callFunc 54 us).run Try.prog w = .ok (.enter 54 us) w := Try.call54
abbrev n_s_l07Is : FuncId := 55
theorem hf_s_l07Is : Try.prog.funcs[55]? = some Try.f55 := Try.func55
theorem hc_s_l07Is : ∀ us w, (callFunc 55 us).run Try.prog w = .ok (.enter 55 us) w := Try.call55
abbrev n_i_badPartition : FuncId := 56
theorem hf_i_badPartition : Try.prog.funcs[56]? = some Try.f56 := Try.func56
theorem hc_i_badPartition : ∀ us w, (callFunc 56 us).run Try.prog w = .ok (.enter 56 us) w := Try.call56
abbrev n_l_eqByteA8 : FuncId := 57
theorem hf_l_eqByteA8 : Try.prog.funcs[57]? = some Try.f57 := Try.func57
theorem hc_l_eqByteA8 : ∀ us w, (callFunc 57 us).run Try.prog w = .ok (.enter 57 us) w := Try.call57
abbrev n_s_l07Text : FuncId := 58
theorem hf_s_l07Text : Try.prog.funcs[58]? = some Try.f58 := Try.func58
theorem hc_s_l07Text : ∀ us w, (callFunc 58 us).run Try.prog w = .ok (.enter 58 us) w := Try.call58
abbrev n_l_toByteA8 : FuncId := 59
theorem hf_l_toByteA8 : Try.prog.funcs[59]? = some Try.f59 := Try.func59
theorem hc_l_toByteA8 : ∀ us w, (callFunc 59 us).run Try.prog w = .ok (.enter 59 us) w := Try.call59
abbrev n_i_Partition_parts : FuncId := 60
theorem hf_i_Partition_parts : Try.prog.funcs[60]? = some Try.f60 := Try.func60
theorem hc_i_Partition_parts : ∀ us w, (callFunc 60 us).run Try.prog w = .ok (.enter 60 us) w := Try.call60
abbrev n_s_l07Counts : FuncId := 61
theorem hf_s_l07Counts : Try.prog.funcs[61]? = some Try.f61 := Try.func61
theorem hc_s_l07Counts : ∀ us w, (callFunc 61 us).run Try.prog w = .ok (.enter 61 us) w := Try.call61
abbrev n_i_Partition_sides : FuncId := 62
theorem hf_i_Partition_sides : Try.prog.funcs[62]? = some Try.f62 := Try.func62
theorem hc_i_Partition_sides : ∀ us w, (callFunc 62 us).run Try.prog w = .ok (.enter 62 us) w := Try.call62
abbrev n_s_l07Told : FuncId := 63
theorem hf_s_l07Told : Try.prog.funcs[63]? = some Try.f63 := Try.func63
theorem hc_s_l07Told : ∀ us w, (callFunc 63 us).run Try.prog w = .ok (.enter 63 us) w := Try.call63
abbrev n_i_Partition_n : FuncId := 64
theorem hf_i_Partition_n : Try.prog.funcs[64]? = some Try.f64 := Try.func64
theorem hc_i_Partition_n : ∀ us w, (callFunc 64 us).run Try.prog w = .ok (.enter 64 us) w := Try.call64
abbrev n_i_named : FuncId := 65
theorem hf_i_named : Try.prog.funcs[65]? = some Try.f65 := Try.func65
theorem hc_i_named : ∀ us w, (callFunc 65 us).run Try.prog w = .ok (.enter 65 us) w := Try.call65
abbrev n_i_FlipPartition_1 : FuncId := 66
theorem hf_i_FlipPartition_1 : Try.prog.funcs[66]? = some Try.f66 := Try.func66
theorem hc_i_FlipPartition_1 : ∀ us w, (callFunc 66 us).run Try.prog w = .ok (.enter 66 us) w := Try.call66
abbrev n_i_Partition_part : FuncId := 67
theorem hf_i_Partition_part : Try.prog.funcs[67]? = some Try.f67 := Try.func67
theorem hc_i_Partition_part : ∀ us w, (callFunc 67 us).run Try.prog w = .ok (.enter 67 us) w := Try.call67
abbrev n_i_UnionPartition_1 : FuncId := 68
theorem hf_i_UnionPartition_1 : Try.prog.funcs[68]? = some Try.f68 := Try.func68
theorem hc_i_UnionPartition_1 : ∀ us w, (callFunc 68 us).run Try.prog w = .ok (.enter 68 us) w := Try.call68
abbrev n_s_l07Pair : FuncId := 69
theorem hf_s_l07Pair : Try.prog.funcs[69]? = some Try.f69 := Try.func69
theorem hc_s_l07Pair : ∀ us w, (callFunc 69 us).run Try.prog w = .ok (.enter 69 us) w := Try.call69
abbrev n_s_l07Times : FuncId := 70
theorem hf_s_l07Times : Try.prog.funcs[70]? = some Try.f70 := Try.func70
theorem hc_s_l07Times : ∀ us w, (callFunc 70 us).run Try.prog w = .ok (.enter 70 us) w := Try.call70
abbrev n_i_timesPartition : FuncId := 71
theorem hf_i_timesPartition : Try.prog.funcs[71]? = some Try.f71 := Try.func71
theorem hc_i_timesPartition : ∀ us w, (callFunc 71 us).run Try.prog w = .ok (.enter 71 us) w := Try.call71
abbrev n_s_l07Kinds : FuncId := 72
theorem hf_s_l07Kinds : Try.prog.funcs[72]? = some Try.f72 := Try.func72
theorem hc_s_l07Kinds : ∀ us w, (callFunc 72 us).run Try.prog w = .ok (.enter 72 us) w := Try.call72
abbrev n_i_Partition_kinds : FuncId := 73
theorem hf_i_Partition_kinds : Try.prog.funcs[73]? = some Try.f73 := Try.func73
theorem hc_i_Partition_kinds : ∀ us w, (callFunc 73 us).run Try.prog w = .ok (.enter 73 us) w := Try.call73
abbrev n_s_l01In : FuncId := 74
theorem hf_s_l01In : Try.prog.funcs[74]? = some Try.f74 := Try.func74
theorem hc_s_l01In : ∀ us w, (callFunc 74 us).run Try.prog w = .ok (.enter 74 us) w := Try.call74
abbrev n_s_l07All : FuncId := 75
theorem hf_s_l07All : Try.prog.funcs[75]? = some Try.f75 := Try.func75
theorem hc_s_l07All : ∀ us w, (callFunc 75 us).run Try.prog w = .ok (.enter 75 us) w := Try.call75
abbrev n_i_in : FuncId := 76
theorem hf_i_in : Try.prog.funcs[76]? = some Try.f76 := Try.func76
theorem hc_i_in : ∀ us w, (callFunc 76 us).run Try.prog w = .ok (.enter 76 us) w := Try.call76
abbrev n_i_allPartitions : FuncId := 77
theorem hf_i_allPartitions : Try.prog.funcs[77]? = some Try.f77 := Try.func77
theorem hc_i_allPartitions : ∀ us w, (callFunc 77 us).run Try.prog w = .ok (.enter 77 us) w := Try.call77
abbrev n_i_CountKinds_1 : FuncId := 78
theorem hf_i_CountKinds_1 : Try.prog.funcs[78]? = some Try.f78 := Try.func78
theorem hc_i_CountKinds_1 : ∀ us w, (callFunc 78 us).run Try.prog w = .ok (.enter 78 us) w := Try.call78
abbrev n_g_Index_Partition : FuncId := 79
theorem hf_g_Index_Partition : Try.prog.funcs[79]? = some Try.f79 := Try.func79
theorem hc_g_Index_Partition : ∀ us w, (callFunc 79 us).run Try.prog w = .ok (.enter 79 us) w := Try.call79
abbrev n_s_l07Planar : FuncId := 80
theorem hf_s_l07Planar : Try.prog.funcs[80]? = some Try.f80 := Try.func80
theorem hc_s_l07Planar : ∀ us w, (callFunc 80 us).run Try.prog w = .ok (.enter 80 us) w := Try.call80
abbrev n_s_l07Surround : FuncId := 81
theorem hf_s_l07Surround : Try.prog.funcs[81]? = some Try.f81 := Try.func81
theorem hc_s_l07Surround : ∀ us w, (callFunc 81 us).run Try.prog w = .ok (.enter 81 us) w := Try.call81
abbrev n_i_Partition_planar : FuncId := 82
theorem hf_i_Partition_planar : Try.prog.funcs[82]? = some Try.f82 := Try.func82
theorem hc_i_Partition_planar : ∀ us w, (callFunc 82 us).run Try.prog w = .ok (.enter 82 us) w := Try.call82
abbrev n_i_Partition_around : FuncId := 83
theorem hf_i_Partition_around : Try.prog.funcs[83]? = some Try.f83 := Try.func83
theorem hc_i_Partition_around : ∀ us w, (callFunc 83 us).run Try.prog w = .ok (.enter 83 us) w := Try.call83
abbrev n_i_following : FuncId := 84
theorem hf_i_following : Try.prog.funcs[84]? = some Try.f84 := Try.func84
theorem hc_i_following : ∀ us w, (callFunc 84 us).run Try.prog w = .ok (.enter 84 us) w := Try.call84
abbrev n_i_joined : FuncId := 85
theorem hf_i_joined : Try.prog.funcs[85]? = some Try.f85 := Try.func85
theorem hc_i_joined : ∀ us w, (callFunc 85 us).run Try.prog w = .ok (.enter 85 us) w := Try.call85
abbrev n_l_eqByteA16 : FuncId := 86
theorem hf_l_eqByteA16 : Try.prog.funcs[86]? = some Try.f86 := Try.func86
theorem hc_l_eqByteA16 : ∀ us w, (callFunc 86 us).run Try.prog w = .ok (.enter 86 us) w := Try.call86
abbrev n_s_l01Join : FuncId := 87
theorem hf_s_l01Join : Try.prog.funcs[87]? = some Try.f87 := Try.func87
theorem hc_s_l01Join : ∀ us w, (callFunc 87 us).run Try.prog w = .ok (.enter 87 us) w := Try.call87
abbrev n_s_l07Spoil : FuncId := 88
theorem hf_s_l07Spoil : Try.prog.funcs[88]? = some Try.f88 := Try.func88
theorem hc_s_l07Spoil : ∀ us w, (callFunc 88 us).run Try.prog w = .ok (.enter 88 us) w := Try.call88
abbrev n_s_l01From : FuncId := 89
theorem hf_s_l01From : Try.prog.funcs[89]? = some Try.f89 := Try.func89
theorem hc_s_l01From : ∀ us w, (callFunc 89 us).run Try.prog w = .ok (.enter 89 us) w := Try.call89
abbrev n_s_l07DrawOf : FuncId := 90
theorem hf_s_l07DrawOf : Try.prog.funcs[90]? = some Try.f90 := Try.func90
theorem hc_s_l07DrawOf : ∀ us w, (callFunc 90 us).run Try.prog w = .ok (.enter 90 us) w := Try.call90
abbrev n_s_l01Next : FuncId := 91
theorem hf_s_l01Next : Try.prog.funcs[91]? = some Try.f91 := Try.func91
theorem hc_s_l01Next : ∀ us w, (callFunc 91 us).run Try.prog w = .ok (.enter 91 us) w := Try.call91
abbrev n_s_l01Damage : FuncId := 92
theorem hf_s_l01Damage : Try.prog.funcs[92]? = some Try.f92 := Try.func92
theorem hc_s_l01Damage : ∀ us w, (callFunc 92 us).run Try.prog w = .ok (.enter 92 us) w := Try.call92
abbrev n_s_l01Near : FuncId := 93
theorem hf_s_l01Near : Try.prog.funcs[93]? = some Try.f93 := Try.func93
theorem hc_s_l01Near : ∀ us w, (callFunc 93 us).run Try.prog w = .ok (.enter 93 us) w := Try.call93
abbrev n_i_UnitPartition_1 : FuncId := 94
theorem hf_i_UnitPartition_1 : Try.prog.funcs[94]? = some Try.f94 := Try.func94
theorem hc_i_UnitPartition_1 : ∀ us w, (callFunc 94 us).run Try.prog w = .ok (.enter 94 us) w := Try.call94
abbrev n_s_l07One : FuncId := 95
theorem hf_s_l07One : Try.prog.funcs[95]? = some Try.f95 := Try.func95
theorem hc_s_l07One : ∀ us w, (callFunc 95 us).run Try.prog w = .ok (.enter 95 us) w := Try.call95
abbrev n_g_ContainsFunc_Partition : FuncId := 96
theorem hf_g_ContainsFunc_Partition : Try.prog.funcs[96]? = some Try.f96 := Try.func96
theorem hc_g_ContainsFunc_Partition : ∀ us w, (callFunc 96 us).run Try.prog w = .ok (.enter 96 us) w := Try.call96
abbrev n_i_badPartition_1 : FuncId := 97
theorem hf_i_badPartition_1 : Try.prog.funcs[97]? = some Try.f97 := Try.func97
theorem hc_i_badPartition_1 : ∀ us w, (callFunc 97 us).run Try.prog w = .ok (.enter 97 us) w := Try.call97
abbrev n_i_IsPartition : FuncId := 98
theorem hf_i_IsPartition : Try.prog.funcs[98]? = some Try.f98 := Try.func98
theorem hc_i_IsPartition : ∀ us w, (callFunc 98 us).run Try.prog w = .ok (.enter 98 us) w := Try.call98
abbrev n_s_l01Dec : FuncId := 99
theorem hf_s_l01Dec : Try.prog.funcs[99]? = some Try.f99 := Try.func99
theorem hc_s_l01Dec : ∀ us w, (callFunc 99 us).run Try.prog w = .ok (.enter 99 us) w := Try.call99
abbrev n_i_newGroups : FuncId := 100
theorem hf_i_newGroups : Try.prog.funcs[100]? = some Try.f100 := Try.func100
theorem hc_i_newGroups : ∀ us w, (callFunc 100 us).run Try.prog w = .ok (.enter 100 us) w := Try.call100
abbrev n_i_groups_join : FuncId := 101
theorem hf_i_groups_join : Try.prog.funcs[101]? = some Try.f101 := Try.func101
theorem hc_i_groups_join : ∀ us w, (callFunc 101 us).run Try.prog w = .ok (.enter 101 us) w := Try.call101
abbrev n_i_groups_of : FuncId := 102
theorem hf_i_groups_of : Try.prog.funcs[102]? = some Try.f102 := Try.func102
theorem hc_i_groups_of : ∀ us w, (callFunc 102 us).run Try.prog w = .ok (.enter 102 us) w := Try.call102
abbrev n_i_timesPartition_1 : FuncId := 103
theorem hf_i_timesPartition_1 : Try.prog.funcs[103]? = some Try.f103 := Try.func103
theorem hc_i_timesPartition_1 : ∀ us w, (callFunc 103 us).run Try.prog w = .ok (.enter 103 us) w := Try.call103
abbrev n_i_Partition_kinds_1 : FuncId := 104
theorem hf_i_Partition_kinds_1 : Try.prog.funcs[104]? = some Try.f104 := Try.func104
theorem hc_i_Partition_kinds_1 : ∀ us w, (callFunc 104 us).run Try.prog w = .ok (.enter 104 us) w := Try.call104
abbrev n_g_ContainsFunc_2_int : FuncId := 105
theorem hf_g_ContainsFunc_2_int : Try.prog.funcs[105]? = some Try.f105 := Try.func105
theorem hc_g_ContainsFunc_2_int : ∀ us w, (callFunc 105 us).run Try.prog w = .ok (.enter 105 us) w := Try.call105
abbrev n_i_Partition_kinds_1q_1 : FuncId := 106
theorem hf_i_Partition_kinds_1q_1 : Try.prog.funcs[106]? = some Try.f106 := Try.func106
theorem hc_i_Partition_kinds_1q_1 : ∀ us w, (callFunc 106 us).run Try.prog w = .ok (.enter 106 us) w := Try.call106
abbrev n_i_Partition_kinds_2 : FuncId := 107
theorem hf_i_Partition_kinds_2 : Try.prog.funcs[107]? = some Try.f107 := Try.func107
theorem hc_i_Partition_kinds_2 : ∀ us w, (callFunc 107 us).run Try.prog w = .ok (.enter 107 us) w := Try.call107
abbrev n_i_Partition_kinds_3 : FuncId := 108
theorem hf_i_Partition_kinds_3 : Try.prog.funcs[108]? = some Try.f108 := Try.func108
theorem hc_i_Partition_kinds_3 : ∀ us w, (callFunc 108 us).run Try.prog w = .ok (.enter 108 us) w := Try.call108
abbrev n_i_Partition_kinds_4 : FuncId := 109
theorem hf_i_Partition_kinds_4 : Try.prog.funcs[109]? = some Try.f109 := Try.func109
theorem hc_i_Partition_kinds_4 : ∀ us w, (callFunc 109 us).run Try.prog w = .ok (.enter 109 us) w := Try.call109
abbrev n_i_Partition_kinds_5 : FuncId := 110
theorem hf_i_Partition_kinds_5 : Try.prog.funcs[110]? = some Try.f110 := Try.func110
theorem hc_i_Partition_kinds_5 : ∀ us w, (callFunc 110 us).run Try.prog w = .ok (.enter 110 us) w := Try.call110
abbrev n_i_Partition_kinds_6 : FuncId := 111
theorem hf_i_Partition_kinds_6 : Try.prog.funcs[111]? = some Try.f111 := Try.func111
theorem hc_i_Partition_kinds_6 : ∀ us w, (callFunc 111 us).run Try.prog w = .ok (.enter 111 us) w := Try.call111
abbrev n_s_l07Fill : FuncId := 112
theorem hf_s_l07Fill : Try.prog.funcs[112]? = some Try.f112 := Try.func112
theorem hc_s_l07Fill : ∀ us w, (callFunc 112 us).run Try.prog w = .ok (.enter 112 us) w := Try.call112
abbrev n_i_allPartitions_1 : FuncId := 113
theorem hf_i_allPartitions_1 : Try.prog.funcs[113]? = some Try.f113 := Try.func113
theorem hc_i_allPartitions_1 : ∀ us w, (callFunc 113 us).run Try.prog w = .ok (.enter 113 us) w := Try.call113
abbrev n_s_l07At : FuncId := 114
theorem hf_s_l07At : Try.prog.funcs[114]? = some Try.f114 := Try.func114
theorem hc_s_l07At : ∀ us w, (callFunc 114 us).run Try.prog w = .ok (.enter 114 us) w := Try.call114
abbrev n_s_l01Place : FuncId := 115
theorem hf_s_l01Place : Try.prog.funcs[115]? = some Try.f115 := Try.func115
theorem hc_s_l01Place : ∀ us w, (callFunc 115 us).run Try.prog w = .ok (.enter 115 us) w := Try.call115
abbrev n_g_Contains_byte : FuncId := 116
theorem hf_g_Contains_byte : Try.prog.funcs[116]? = some Try.f116 := Try.func116
theorem hc_g_Contains_byte : ∀ us w, (callFunc 116 us).run Try.prog w = .ok (.enter 116 us) w := Try.call116
abbrev n_i_placeOf : FuncId := 117
theorem hf_i_placeOf : Try.prog.funcs[117]? = some Try.f117 := Try.func117
theorem hc_i_placeOf : ∀ us w, (callFunc 117 us).run Try.prog w = .ok (.enter 117 us) w := Try.call117
abbrev n_s_l01Pick : FuncId := 118
theorem hf_s_l01Pick : Try.prog.funcs[118]? = some Try.f118 := Try.func118
theorem hc_s_l01Pick : ∀ us w, (callFunc 118 us).run Try.prog w = .ok (.enter 118 us) w := Try.call118
abbrev n_s_l01DrawOf : FuncId := 119
theorem hf_s_l01DrawOf : Try.prog.funcs[119]? = some Try.f119 := Try.func119
theorem hc_s_l01DrawOf : ∀ us w, (callFunc 119 us).run Try.prog w = .ok (.enter 119 us) w := Try.call119
abbrev n_g_IndexFunc_Partition : FuncId := 120
theorem hf_g_IndexFunc_Partition : Try.prog.funcs[120]? = some Try.f120 := Try.func120
theorem hc_g_IndexFunc_Partition : ∀ us w, (callFunc 120 us).run Try.prog w = .ok (.enter 120 us) w := Try.call120
abbrev n_g_IndexFunc_2_int : FuncId := 121
theorem hf_g_IndexFunc_2_int : Try.prog.funcs[121]? = some Try.f121 := Try.func121
theorem hc_g_IndexFunc_2_int : ∀ us w, (callFunc 121 us).run Try.prog w = .ok (.enter 121 us) w := Try.call121
abbrev n_g_Index_byte : FuncId := 122
theorem hf_g_Index_byte : Try.prog.funcs[122]? = some Try.f122 := Try.func122
theorem hc_g_Index_byte : ∀ us w, (callFunc 122 us).run Try.prog w = .ok (.enter 122 us) w := Try.call122
abbrev n_s_l01Read : FuncId := 123
theorem hf_s_l01Read : Try.prog.funcs[123]? = some Try.f123 := Try.func123
theorem hc_s_l01Read : ∀ us w, (callFunc 123 us).run Try.prog w = .ok (.enter 123 us) w := Try.call123
abbrev T_f_ : TypeId := 1
abbrev T_int64 : TypeId := 2
abbrev T_int : TypeId := 3
abbrev T_bool : TypeId := 4
abbrev T_uint8 : TypeId := 5
abbrev T_string : TypeId := 9
abbrev T_a8q_uint8 : TypeId := 22
abbrev T_i_Partition : TypeId := 24
theorem eg_i_Partition : Try.prog.eqGuardType Try.prog.depth 24 = false := Try.eqGuardType24
theorem st_i_Partition : Try.prog.stoodInHeld 24 = false := Try.stoodInHeld24
abbrev T_f_string_impl_Partition_int64 : TypeId := 26
abbrev T_f_impl_Partition_impl_Partition_bool : TypeId := 27
abbrev T_f_string_bool : TypeId := 28
abbrev T_l_Partition : TypeId := 29
abbrev T_f_impl_Partition_string_int64 : TypeId := 31
abbrev T_f_laws_Partition_impl_Partition : TypeId := 32
abbrev T_f_laws_Partition_bool : TypeId := 33
abbrev T_f_impl_Partition_int64q_int64 : TypeId := 35
abbrev T_f_impl_Partition_impl_Partition_int64 : TypeId := 36
abbrev T_f_impl_Partition_impl_Partition_impl_Partition_int64 : TypeId := 37
abbrev T_f_laws_Partition_laws_Partition_bool : TypeId := 38
abbrev T_f_impl_Partition_impl_Partition_impl_Partition_int64q_int64 : TypeId := 40
abbrev T_s_bool : TypeId := 41
abbrev T_f_impl_Partition_bool_int64 : TypeId := 43
abbrev T_f_bool_bool_bool : TypeId := 44
abbrev T_f_bool_int_int : TypeId := 45
abbrev T_s_int64 : TypeId := 46
abbrev T_f_int64q_int64q_int64 : TypeId := 48
abbrev T_f_int64q_int64q_bool : TypeId := 49
abbrev T_f_int64q_int_int : TypeId := 50
abbrev T_f_int64q_bool : TypeId := 51
abbrev T_a16q_uint8 : TypeId := 53
abbrev T_i_Diagram : TypeId := 55
theorem eg_i_Diagram : Try.prog.eqGuardType Try.prog.depth 55 = false := Try.eqGuardType55
theorem st_i_Diagram : Try.prog.stoodInHeld 55 = false := Try.stoodInHeld55
abbrev T_f_impl_Partition_impl_Diagram_int64 : TypeId := 57
abbrev T_f_impl_Diagram_impl_Diagram_bool : TypeId := 58
abbrev T_s_uint8 : TypeId := 59
abbrev T_f_uint8q_bool : TypeId := 60
abbrev T_f_uint8q_impl_Partition : TypeId := 61
abbrev T_f_uint8q_string : TypeId := 62
abbrev T_f_uint8q_int64 : TypeId := 63
abbrev T_f_int64q_impl_Partition_int64 : TypeId := 64
abbrev T_f_impl_Partition_bool : TypeId := 65
abbrev T_f_8q_uint8q_8q_uint8q_bool : TypeId := 67
abbrev T_f_impl_Partition_string : TypeId := 68
abbrev T_f_8q_uint8q_8q_uint8 : TypeId := 69
abbrev T_f_uint8 : TypeId := 70
abbrev T_a8q_int64 : TypeId := 71
abbrev T_f_impl_Partition_8q_int64q_8q_int64q_int64 : TypeId := 73
abbrev T_sa2q_int : TypeId := 74
abbrev T_f_2q_int : TypeId := 75
abbrev T_a2q_int : TypeId := 76
abbrev T_f_int64q_int64q_impl_Partition : TypeId := 77
abbrev T_f_int : TypeId := 78
abbrev T_f_int_func_int_int_impl_Partition : TypeId := 79
abbrev T_f_int_int : TypeId := 80
abbrev T_f_bool : TypeId := 85
abbrev T_f_int64q_int64q_int64q_bool : TypeId := 86
abbrev T_s_i_Partition : TypeId := 87
abbrev T_f_int64q_impl_Partition : TypeId := 88
abbrev T_f_int_func_impl_Partition : TypeId := 89
abbrev T_f_impl_Partition : TypeId := 90
abbrev T_f_impl_Partition_impl_Partition_int : TypeId := 91
abbrev T_f_impl_Partition_impl_Diagram : TypeId := 92
abbrev T_s_int : TypeId := 94
abbrev T_f_uint8q_int_int : TypeId := 95
abbrev T_f_int_int_impl_Diagram : TypeId := 96
abbrev T_f_16q_uint8q_16q_uint8q_bool : TypeId := 97
abbrev T_f_impl_Diagram_int64q_int64q_impl_Diagram : TypeId := 98
abbrev T_f_spec_l01Source_impl_Partition : TypeId := 99
abbrev T_f_uint8q_spec_l01Source : TypeId := 101
abbrev T_f_spec_l01Source_int64q_impl_Partition : TypeId := 102
abbrev T_f_spec_l01Source_int64q_int64 : TypeId := 103
abbrev T_f_spec_l01Source_string_string : TypeId := 104
abbrev T_f_impl_Partition_func_impl_Partition_bool_bool : TypeId := 106
abbrev T_f_int64q_string : TypeId := 107
abbrev T_m_int_uint8 : TypeId := 108
abbrev T_a16q_int64 : TypeId := 110
abbrev T_a16q_bool : TypeId := 111
abbrev T_i_groups : TypeId := 112
abbrev T_f_int_impl_groups : TypeId := 113
abbrev T_m_int_bool : TypeId := 115
abbrev T_f_int_int_bool : TypeId := 116
abbrev T_f_2q_int_func_2q_int_bool_bool : TypeId := 117
abbrev T_f_2q_int_bool : TypeId := 118
abbrev T_f_func_int_int_bool_bool : TypeId := 119
abbrev T_f_impl_Partition_impl_Partition_int64q_uint8q_impl_Partition : TypeId := 120
abbrev T_f_impl_Partition_int_uint8 : TypeId := 121
abbrev T_f_impl_Partition_int64q_uint8 : TypeId := 122
abbrev T_f_uint8q_uint8q_bool : TypeId := 124
abbrev T_f_int_int_int : TypeId := 125
abbrev T_uint64 : TypeId := 127
abbrev T_s_l01Source : TypeId := 129
abbrev T_f_spec_l01Source_int64q_impl_Diagram : TypeId := 130
abbrev T_s_string : TypeId := 132
abbrev T_f_impl_Partition_func_impl_Partition_bool_int : TypeId := 133
abbrev T_f_2q_int_func_2q_int_bool_int : TypeId := 134
abbrev T_f_uint8q_uint8q_int : TypeId := 135
abbrev T_f_string_impl_Diagram_bool : TypeId := 137
abbrev T_f_string : TypeId := 138
abbrev T_f_unsafe_Pointer_unsafe_Pointer_bool : TypeId := 147
end Go.Proofs.Ytpangmameocfmaa.VE
