/- A part of the proof that AliasThings and AliasMeets return true for every module: texts on an abstract reading of the code (AmFacts). -/
import Derived.Test.YtdmaniffgdpfeaaXAmFrz
import Derived.Test.YtdmaniffgdpfeaaProg
set_option linter.unusedVariables false
set_option linter.unusedSimpArgs false
set_option linter.unusedSectionVars false
namespace Go.Am
open Go Go.Proofs
theorem fc_intOf_2 : intOf Try.prog 2 = some IntKind.i64 := by kernel_rfl
theorem fc_szOf_3 : szOf Try.prog 3 = 1 := by kernel_rfl
theorem fc_isAggB_3 : isAggB Try.prog 3 = some false := by kernel_rfl
theorem fc_intOf_3 : intOf Try.prog 3 = some IntKind.i64 := by kernel_rfl
theorem fc_zAV_3 : zAV Try.prog 3 = some (AV.val (Value.int IntKind.i64 (0))) := by kernel_rfl
theorem fc_bytesOf_3 : Try.prog.bytesOf 3 = 8 := by kernel_rfl
theorem fc_info_3 : (Try.prog.info? 3).isSome = true := by kernel_rfl
theorem fc_szOf_4 : szOf Try.prog 4 = 1 := by kernel_rfl
theorem fc_isAggB_4 : isAggB Try.prog 4 = some false := by kernel_rfl
theorem fc_isBoolT_4 : isBoolT Try.prog 4 = true := by kernel_rfl
theorem fc_zAV_4 : zAV Try.prog 4 = some (AV.val (Value.bool false)) := by kernel_rfl
theorem fc_bytesOf_4 : Try.prog.bytesOf 4 = 1 := by kernel_rfl
theorem fc_info_4 : (Try.prog.info? 4).isSome = true := by kernel_rfl
theorem fc_szOf_5 : szOf Try.prog 5 = 1 := by kernel_rfl
theorem fc_isAggB_5 : isAggB Try.prog 5 = some false := by kernel_rfl
theorem fc_intOf_5 : intOf Try.prog 5 = some IntKind.u8 := by kernel_rfl
theorem fc_zAV_5 : zAV Try.prog 5 = some (AV.val (Value.int IntKind.u8 (0))) := by kernel_rfl
theorem fc_bytesOf_5 : Try.prog.bytesOf 5 = 1 := by kernel_rfl
theorem fc_info_5 : (Try.prog.info? 5).isSome = true := by kernel_rfl
theorem fc_intOf_21 : intOf Try.prog 21 = some IntKind.i32 := by kernel_rfl
theorem fc_slElem_22 : slElem Try.prog 22 = some 95 := by kernel_rfl
theorem fc_szOf_22 : szOf Try.prog 22 = 1 := by kernel_rfl
theorem fc_isAggB_22 : isAggB Try.prog 22 = some false := by kernel_rfl
theorem fc_slElem_23 : slElem Try.prog 23 = some 146 := by kernel_rfl
theorem fc_szOf_23 : szOf Try.prog 23 = 1 := by kernel_rfl
theorem fc_isAggB_23 : isAggB Try.prog 23 = some false := by kernel_rfl
theorem fc_slElem_24 : slElem Try.prog 24 = some 32 := by kernel_rfl
theorem fc_szOf_24 : szOf Try.prog 24 = 1 := by kernel_rfl
theorem fc_isAggB_24 : isAggB Try.prog 24 = some false := by kernel_rfl
theorem fc_info_24 : (Try.prog.info? 24).isSome = true := by kernel_rfl
theorem fc_szOf_26 : szOf Try.prog 26 = 4 := by kernel_rfl
theorem fc_isAggB_26 : isAggB Try.prog 26 = some true := by kernel_rfl
theorem fc_zAV_26 : zAV Try.prog 26 = some (AV.agg [AV.val (Value.slice none 0 0), AV.val (Value.slice none 0 0), AV.val (Value.slice none 0 0), AV.val (Value.int IntKind.i64 (0))]) := by kernel_rfl
theorem fc_bAV_26 : bAV Try.prog 26 = some [AV.val (Value.slice none 0 0), AV.val (Value.slice none 0 0), AV.val (Value.slice none 0 0), AV.val (Value.int IntKind.i64 (0))] := by kernel_rfl
theorem fc_info_26 : (Try.prog.info? 26).isSome = true := by kernel_rfl
theorem fc_szOf_27 : szOf Try.prog 27 = 4 := by kernel_rfl
theorem fc_slElem_30 : slElem Try.prog 30 = some 35 := by kernel_rfl
theorem fc_szOf_30 : szOf Try.prog 30 = 1 := by kernel_rfl
theorem fc_isAggB_30 : isAggB Try.prog 30 = some false := by kernel_rfl
theorem fc_info_30 : (Try.prog.info? 30).isSome = true := by kernel_rfl
theorem fc_szOf_32 : szOf Try.prog 32 = 6 := by kernel_rfl
theorem fc_isAggB_32 : isAggB Try.prog 32 = some true := by kernel_rfl
theorem fc_zAV_32 : zAV Try.prog 32 = some (AV.agg [AV.val (Value.string { data := { toList := [] } }), AV.val (Value.bool false), AV.val (Value.int IntKind.i64 (0)), AV.val (Value.int IntKind.i64 (0)), AV.val (Value.slice none 0 0), AV.val (Value.slice none 0 0)]) := by kernel_rfl
theorem fc_bAV_32 : bAV Try.prog 32 = some [AV.val (Value.string { data := { toList := [] } }), AV.val (Value.bool false), AV.val (Value.int IntKind.i64 (0)), AV.val (Value.int IntKind.i64 (0)), AV.val (Value.slice none 0 0), AV.val (Value.slice none 0 0)] := by kernel_rfl
theorem fc_bytesOf_32 : Try.prog.bytesOf 32 = 88 := by kernel_rfl
theorem fc_info_32 : (Try.prog.info? 32).isSome = true := by kernel_rfl
theorem fc_slElem_33 : slElem Try.prog 33 = some 39 := by kernel_rfl
theorem fc_szOf_33 : szOf Try.prog 33 = 1 := by kernel_rfl
theorem fc_isAggB_33 : isAggB Try.prog 33 = some false := by kernel_rfl
theorem fc_zAV_33 : zAV Try.prog 33 = some (AV.val (Value.slice none 0 0)) := by kernel_rfl
theorem fc_bytesOf_33 : Try.prog.bytesOf 33 = 24 := by kernel_rfl
theorem fc_info_33 : (Try.prog.info? 33).isSome = true := by kernel_rfl
theorem fc_szOf_35 : szOf Try.prog 35 = 5 := by kernel_rfl
theorem fc_isAggB_35 : isAggB Try.prog 35 = some true := by kernel_rfl
theorem fc_zAV_35 : zAV Try.prog 35 = some (AV.agg [AV.val (Value.slice none 0 0), AV.val (Value.int IntKind.i64 (0)), AV.val (Value.int IntKind.i64 (0)), AV.val (Value.int IntKind.i64 (0)), AV.val (Value.int IntKind.i64 (0))]) := by kernel_rfl
theorem fc_bAV_35 : bAV Try.prog 35 = some [AV.val (Value.slice none 0 0), AV.val (Value.int IntKind.i64 (0)), AV.val (Value.int IntKind.i64 (0)), AV.val (Value.int IntKind.i64 (0)), AV.val (Value.int IntKind.i64 (0))] := by kernel_rfl
theorem fc_bytesOf_35 : Try.prog.bytesOf 35 = 56 := by kernel_rfl
theorem fc_info_35 : (Try.prog.info? 35).isSome = true := by kernel_rfl
theorem fc_szOf_36 : szOf Try.prog 36 = 1 := by kernel_rfl
theorem fc_isAggB_36 : isAggB Try.prog 36 = some false := by kernel_rfl
theorem fc_intOf_36 : intOf Try.prog 36 = some IntKind.u32 := by kernel_rfl
theorem fc_zAV_36 : zAV Try.prog 36 = some (AV.val (Value.int IntKind.u32 (0))) := by kernel_rfl
theorem fc_bytesOf_36 : Try.prog.bytesOf 36 = 4 := by kernel_rfl
theorem fc_info_36 : (Try.prog.info? 36).isSome = true := by kernel_rfl
theorem fc_slElem_37 : slElem Try.prog 37 = some 3 := by kernel_rfl
theorem fc_szOf_37 : szOf Try.prog 37 = 1 := by kernel_rfl
theorem fc_isAggB_37 : isAggB Try.prog 37 = some false := by kernel_rfl
theorem fc_zAV_37 : zAV Try.prog 37 = some (AV.val (Value.slice none 0 0)) := by kernel_rfl
theorem fc_bytesOf_37 : Try.prog.bytesOf 37 = 24 := by kernel_rfl
theorem fc_info_37 : (Try.prog.info? 37).isSome = true := by kernel_rfl
theorem fc_szOf_39 : szOf Try.prog 39 = 11 := by kernel_rfl
theorem fc_isAggB_39 : isAggB Try.prog 39 = some true := by kernel_rfl
theorem fc_zAV_39 : zAV Try.prog 39 = some (AV.agg [AV.val (Value.int IntKind.i64 (0)), AV.val (Value.int IntKind.i64 (0)), AV.val (Value.int IntKind.i64 (0)), AV.val (Value.int IntKind.i64 (0)), AV.val (Value.int IntKind.i64 (0)), AV.val (Value.int IntKind.i64 (0)), AV.val (Value.int IntKind.i64 (0)), AV.val (Value.int IntKind.i64 (0)), AV.val (Value.int IntKind.u32 (0)), AV.val (Value.slice none 0 0), AV.val (Value.bool false)]) := by kernel_rfl
theorem fc_bAV_39 : bAV Try.prog 39 = some [AV.val (Value.int IntKind.i64 (0)), AV.val (Value.int IntKind.i64 (0)), AV.val (Value.int IntKind.i64 (0)), AV.val (Value.int IntKind.i64 (0)), AV.val (Value.int IntKind.i64 (0)), AV.val (Value.int IntKind.i64 (0)), AV.val (Value.int IntKind.i64 (0)), AV.val (Value.int IntKind.i64 (0)), AV.val (Value.int IntKind.u32 (0)), AV.val (Value.slice none 0 0), AV.val (Value.bool false)] := by kernel_rfl
theorem fc_bytesOf_39 : Try.prog.bytesOf 39 = 104 := by kernel_rfl
theorem fc_info_39 : (Try.prog.info? 39).isSome = true := by kernel_rfl
theorem fc_isPtrT_40 : isPtrT Try.prog 40 = true := by kernel_rfl
theorem fc_szOf_41 : szOf Try.prog 41 = 1 := by kernel_rfl
theorem fc_isAggB_41 : isAggB Try.prog 41 = some false := by kernel_rfl
theorem fc_info_41 : (Try.prog.info? 41).isSome = true := by kernel_rfl
theorem fc_slElem_44 : slElem Try.prog 44 = some 45 := by kernel_rfl
theorem fc_szOf_44 : szOf Try.prog 44 = 1 := by kernel_rfl
theorem fc_isAggB_44 : isAggB Try.prog 44 = some false := by kernel_rfl
theorem fc_info_44 : (Try.prog.info? 44).isSome = true := by kernel_rfl
theorem fc_slElem_45 : slElem Try.prog 45 = some 4 := by kernel_rfl
theorem fc_szOf_45 : szOf Try.prog 45 = 1 := by kernel_rfl
theorem fc_isAggB_45 : isAggB Try.prog 45 = some false := by kernel_rfl
theorem fc_zAV_45 : zAV Try.prog 45 = some (AV.val (Value.slice none 0 0)) := by kernel_rfl
theorem fc_bytesOf_45 : Try.prog.bytesOf 45 = 24 := by kernel_rfl
theorem fc_info_45 : (Try.prog.info? 45).isSome = true := by kernel_rfl
theorem fc_szOf_47 : szOf Try.prog 47 = 2 := by kernel_rfl
theorem fc_isAggB_47 : isAggB Try.prog 47 = some true := by kernel_rfl
theorem fc_zAV_47 : zAV Try.prog 47 = some (AV.agg [AV.val (Value.slice none 0 0), AV.val (Value.slice none 0 0)]) := by kernel_rfl
theorem fc_bAV_47 : bAV Try.prog 47 = some [AV.val (Value.slice none 0 0), AV.val (Value.slice none 0 0)] := by kernel_rfl
theorem fc_info_47 : (Try.prog.info? 47).isSome = true := by kernel_rfl
theorem fc_szOf_57 : szOf Try.prog 57 = 3 := by kernel_rfl
theorem fc_isAggB_57 : isAggB Try.prog 57 = some true := by kernel_rfl
theorem fc_zAV_57 : zAV Try.prog 57 = some (AV.agg [AV.val (Value.int IntKind.i64 (0)), AV.val (Value.int IntKind.i64 (0)), AV.val (Value.bool false)]) := by kernel_rfl
theorem fc_bAV_57 : bAV Try.prog 57 = some [AV.val (Value.int IntKind.i64 (0)), AV.val (Value.int IntKind.i64 (0)), AV.val (Value.bool false)] := by kernel_rfl
theorem fc_info_57 : (Try.prog.info? 57).isSome = true := by kernel_rfl
theorem fc_slElem_60 : slElem Try.prog 60 = some 37 := by kernel_rfl
theorem fc_szOf_60 : szOf Try.prog 60 = 1 := by kernel_rfl
theorem fc_isAggB_60 : isAggB Try.prog 60 = some false := by kernel_rfl
theorem fc_zAV_60 : zAV Try.prog 60 = some (AV.val (Value.slice none 0 0)) := by kernel_rfl
theorem fc_info_60 : (Try.prog.info? 60).isSome = true := by kernel_rfl
theorem fc_slElem_63 : slElem Try.prog 63 = some 68 := by kernel_rfl
theorem fc_slElem_65 : slElem Try.prog 65 = some 71 := by kernel_rfl
theorem fc_szOf_68 : szOf Try.prog 68 = 1 := by kernel_rfl
theorem fc_isAggB_68 : isAggB Try.prog 68 = some false := by kernel_rfl
theorem fc_zAV_68 : zAV Try.prog 68 = some (AV.val (Value.map none)) := by kernel_rfl
theorem fc_bytesOf_68 : Try.prog.bytesOf 68 = 8 := by kernel_rfl
theorem fc_slElem_69 : slElem Try.prog 69 = some 36 := by kernel_rfl
theorem fc_szOf_69 : szOf Try.prog 69 = 1 := by kernel_rfl
theorem fc_isAggB_69 : isAggB Try.prog 69 = some false := by kernel_rfl
theorem fc_info_69 : (Try.prog.info? 69).isSome = true := by kernel_rfl
theorem fc_szOf_71 : szOf Try.prog 71 = 3 := by kernel_rfl
theorem fc_isAggB_71 : isAggB Try.prog 71 = some true := by kernel_rfl
theorem fc_zAV_71 : zAV Try.prog 71 = some (AV.agg [AV.val (Value.bool false), AV.val (Value.slice none 0 0), AV.val (Value.slice none 0 0)]) := by kernel_rfl
theorem fc_bAV_71 : bAV Try.prog 71 = some [AV.val (Value.bool false), AV.val (Value.slice none 0 0), AV.val (Value.slice none 0 0)] := by kernel_rfl
theorem fc_bytesOf_71 : Try.prog.bytesOf 71 = 56 := by kernel_rfl
theorem fc_info_71 : (Try.prog.info? 71).isSome = true := by kernel_rfl
theorem fc_szOf_77 : szOf Try.prog 77 = 3 := by kernel_rfl
theorem fc_szOf_87 : szOf Try.prog 87 = 4 := by kernel_rfl
theorem fc_isAggB_87 : isAggB Try.prog 87 = some true := by kernel_rfl
theorem fc_zAV_87 : zAV Try.prog 87 = some (AV.agg [AV.val (Value.slice none 0 0), AV.val (Value.int IntKind.i64 (0)), AV.val (Value.int IntKind.u32 (0)), AV.val (Value.int IntKind.i64 (0))]) := by kernel_rfl
theorem fc_info_87 : (Try.prog.info? 87).isSome = true := by kernel_rfl
theorem fc_szOf_95 : szOf Try.prog 95 = 4 := by kernel_rfl
theorem fc_isAggB_95 : isAggB Try.prog 95 = some true := by kernel_rfl
theorem fc_zAV_95 : zAV Try.prog 95 = some (AV.agg [AV.val (Value.string { data := { toList := [] } }), AV.val (Value.int IntKind.i64 (0)), AV.val (Value.int IntKind.i64 (0)), AV.val (Value.int IntKind.i64 (0))]) := by kernel_rfl
theorem fc_bAV_95 : bAV Try.prog 95 = some [AV.val (Value.string { data := { toList := [] } }), AV.val (Value.int IntKind.i64 (0)), AV.val (Value.int IntKind.i64 (0)), AV.val (Value.int IntKind.i64 (0))] := by kernel_rfl
theorem fc_bytesOf_95 : Try.prog.bytesOf 95 = 40 := by kernel_rfl
theorem fc_info_95 : (Try.prog.info? 95).isSome = true := by kernel_rfl
theorem fc_slElem_96 : slElem Try.prog 96 = some 106 := by kernel_rfl
theorem fc_szOf_96 : szOf Try.prog 96 = 1 := by kernel_rfl
theorem fc_isAggB_96 : isAggB Try.prog 96 = some false := by kernel_rfl
theorem fc_slElem_97 : slElem Try.prog 97 = some 99 := by kernel_rfl
theorem fc_szOf_97 : szOf Try.prog 97 = 1 := by kernel_rfl
theorem fc_isAggB_97 : isAggB Try.prog 97 = some false := by kernel_rfl
theorem fc_info_97 : (Try.prog.info? 97).isSome = true := by kernel_rfl
theorem fc_slElem_99 : slElem Try.prog 99 = some 180 := by kernel_rfl
theorem fc_szOf_99 : szOf Try.prog 99 = 1 := by kernel_rfl
theorem fc_isAggB_99 : isAggB Try.prog 99 = some false := by kernel_rfl
theorem fc_zAV_99 : zAV Try.prog 99 = some (AV.val (Value.slice none 0 0)) := by kernel_rfl
theorem fc_bytesOf_99 : Try.prog.bytesOf 99 = 24 := by kernel_rfl
theorem fc_info_99 : (Try.prog.info? 99).isSome = true := by kernel_rfl
theorem fc_szOf_101 : szOf Try.prog 101 = 10 := by kernel_rfl
theorem fc_bAV_101 : bAV Try.prog 101 = some [AV.agg [AV.val (Value.string { data := { toList := [] } }), AV.val (Value.bool false), AV.val (Value.int IntKind.i64 (0)), AV.val (Value.int IntKind.i64 (0)), AV.val (Value.slice none 0 0), AV.val (Value.slice none 0 0)], AV.val (Value.int IntKind.i64 (0)), AV.val (Value.slice none 0 0), AV.val (Value.slice none 0 0), AV.val (Value.slice none 0 0)] := by kernel_rfl
theorem fc_szOf_106 : szOf Try.prog 106 = 4 := by kernel_rfl
theorem fc_zAV_106 : zAV Try.prog 106 = some (AV.agg [AV.val (Value.int IntKind.i64 (0)), AV.val (Value.int IntKind.i64 (0)), AV.val (Value.int IntKind.i64 (0)), AV.val (Value.bool false)]) := by kernel_rfl
theorem fc_bytesOf_106 : Try.prog.bytesOf 106 = 32 := by kernel_rfl
theorem fc_slElem_120 : slElem Try.prog 120 = some 4 := by kernel_rfl
theorem fc_slElem_124 : slElem Try.prog 124 = some 127 := by kernel_rfl
theorem fc_slElem_127 : slElem Try.prog 127 = some 129 := by kernel_rfl
theorem fc_szOf_127 : szOf Try.prog 127 = 1 := by kernel_rfl
theorem fc_isAggB_127 : isAggB Try.prog 127 = some false := by kernel_rfl
theorem fc_zAV_127 : zAV Try.prog 127 = some (AV.val (Value.slice none 0 0)) := by kernel_rfl
theorem fc_bytesOf_127 : Try.prog.bytesOf 127 = 24 := by kernel_rfl
theorem fc_info_127 : (Try.prog.info? 127).isSome = true := by kernel_rfl
theorem fc_szOf_129 : szOf Try.prog 129 = 2 := by kernel_rfl
theorem fc_isAggB_129 : isAggB Try.prog 129 = some true := by kernel_rfl
theorem fc_zAV_129 : zAV Try.prog 129 = some (AV.agg [AV.val (Value.bool false), AV.val (Value.int IntKind.u32 (0))]) := by kernel_rfl
theorem fc_bAV_129 : bAV Try.prog 129 = some [AV.val (Value.bool false), AV.val (Value.int IntKind.u32 (0))] := by kernel_rfl
theorem fc_bytesOf_129 : Try.prog.bytesOf 129 = 8 := by kernel_rfl
theorem fc_info_129 : (Try.prog.info? 129).isSome = true := by kernel_rfl
theorem fc_szOf_136 : szOf Try.prog 136 = 1 := by kernel_rfl
theorem fc_isAggB_136 : isAggB Try.prog 136 = some false := by kernel_rfl
theorem fc_zAV_136 : zAV Try.prog 136 = some (AV.val (Value.pointer none)) := by kernel_rfl
theorem fc_info_136 : (Try.prog.info? 136).isSome = true := by kernel_rfl
theorem fc_slElem_139 : slElem Try.prog 139 = some 142 := by kernel_rfl
theorem fc_szOf_139 : szOf Try.prog 139 = 1 := by kernel_rfl
theorem fc_isAggB_139 : isAggB Try.prog 139 = some false := by kernel_rfl
theorem fc_info_139 : (Try.prog.info? 139).isSome = true := by kernel_rfl
theorem fc_szOf_141 : szOf Try.prog 141 = 11 := by kernel_rfl
theorem fc_bAV_141 : bAV Try.prog 141 = some [AV.agg [AV.val (Value.string { data := { toList := [] } }), AV.val (Value.bool false), AV.val (Value.int IntKind.i64 (0)), AV.val (Value.int IntKind.i64 (0)), AV.val (Value.slice none 0 0), AV.val (Value.slice none 0 0)], AV.val (Value.pointer none), AV.val (Value.slice none 0 0), AV.val (Value.slice none 0 0), AV.val (Value.slice none 0 0), AV.val (Value.slice none 0 0)] := by kernel_rfl
theorem fc_slElem_142 : slElem Try.prog 142 = some 180 := by kernel_rfl
theorem fc_szOf_142 : szOf Try.prog 142 = 1 := by kernel_rfl
theorem fc_isAggB_142 : isAggB Try.prog 142 = some false := by kernel_rfl
theorem fc_zAV_142 : zAV Try.prog 142 = some (AV.val (Value.slice none 0 0)) := by kernel_rfl
theorem fc_bytesOf_142 : Try.prog.bytesOf 142 = 24 := by kernel_rfl
theorem fc_info_142 : (Try.prog.info? 142).isSome = true := by kernel_rfl
theorem fc_slElem_146 : slElem Try.prog 146 = some 5 := by kernel_rfl
theorem fc_szOf_146 : szOf Try.prog 146 = 1 := by kernel_rfl
theorem fc_isAggB_146 : isAggB Try.prog 146 = some false := by kernel_rfl
theorem fc_zAV_146 : zAV Try.prog 146 = some (AV.val (Value.slice none 0 0)) := by kernel_rfl
theorem fc_bytesOf_146 : Try.prog.bytesOf 146 = 24 := by kernel_rfl
theorem fc_info_146 : (Try.prog.info? 146).isSome = true := by kernel_rfl
theorem fc_szOf_149 : szOf Try.prog 149 = 9 := by kernel_rfl
theorem fc_bAV_149 : bAV Try.prog 149 = some [AV.agg [AV.val (Value.string { data := { toList := [] } }), AV.val (Value.bool false), AV.val (Value.int IntKind.i64 (0)), AV.val (Value.int IntKind.i64 (0)), AV.val (Value.slice none 0 0), AV.val (Value.slice none 0 0)], AV.agg [AV.val (Value.slice none 0 0), AV.val (Value.slice none 0 0)], AV.val (Value.slice none 0 0)] := by kernel_rfl
theorem fc_szOf_159 : szOf Try.prog 159 = 14 := by kernel_rfl
theorem fc_bAV_159 : bAV Try.prog 159 = some [AV.agg [AV.val (Value.slice none 0 0), AV.val (Value.slice none 0 0), AV.val (Value.slice none 0 0), AV.val (Value.int IntKind.i64 (0))], AV.val (Value.slice none 0 0), AV.val (Value.slice none 0 0), AV.val (Value.int IntKind.i64 (0)), AV.val (Value.slice none 0 0), AV.agg [AV.val (Value.slice none 0 0), AV.val (Value.int IntKind.i64 (0)), AV.val (Value.int IntKind.u32 (0)), AV.val (Value.int IntKind.i64 (0))], AV.val (Value.int IntKind.i64 (0)), AV.val (Value.int IntKind.i64 (0))] := by kernel_rfl
theorem fc_szOf_170 : szOf Try.prog 170 = 1 := by kernel_rfl
theorem fc_isAggB_170 : isAggB Try.prog 170 = some false := by kernel_rfl
theorem fc_zAV_170 : zAV Try.prog 170 = some (AV.val (Value.pointer none)) := by kernel_rfl
theorem fc_info_170 : (Try.prog.info? 170).isSome = true := by kernel_rfl
theorem fc_szOf_172 : szOf Try.prog 172 = 11 := by kernel_rfl
theorem fc_bAV_172 : bAV Try.prog 172 = some [AV.agg [AV.val (Value.slice none 0 0), AV.val (Value.slice none 0 0), AV.val (Value.slice none 0 0), AV.val (Value.int IntKind.i64 (0))], AV.agg [AV.val (Value.string { data := { toList := [] } }), AV.val (Value.bool false), AV.val (Value.int IntKind.i64 (0)), AV.val (Value.int IntKind.i64 (0)), AV.val (Value.slice none 0 0), AV.val (Value.slice none 0 0)], AV.val (Value.bool false)] := by kernel_rfl
theorem fc_szOf_180 : szOf Try.prog 180 = 1 := by kernel_rfl
theorem fc_isAggB_180 : isAggB Try.prog 180 = some false := by kernel_rfl
theorem fc_zAV_180 : zAV Try.prog 180 = some (AV.val (Value.int IntKind.u64 (0))) := by kernel_rfl
theorem fc_bytesOf_180 : Try.prog.bytesOf 180 = 8 := by kernel_rfl
theorem fc_info_180 : (Try.prog.info? 180).isSome = true := by kernel_rfl
theorem fc_szOf_204 : szOf Try.prog 204 = 1 := by kernel_rfl
theorem fc_isAggB_204 : isAggB Try.prog 204 = some false := by kernel_rfl
theorem fc_szOf_205 : szOf Try.prog 205 = 1 := by kernel_rfl
theorem fc_isAggB_205 : isAggB Try.prog 205 = some false := by kernel_rfl
theorem fc_szOf_206 : szOf Try.prog 206 = 1 := by kernel_rfl
theorem fc_isAggB_206 : isAggB Try.prog 206 = some false := by kernel_rfl
theorem fc_szOf_208 : szOf Try.prog 208 = 6 := by kernel_rfl
theorem fc_bAV_208 : bAV Try.prog 208 = some [AV.val (Value.map none), AV.val (Value.map none), AV.val (Value.map none), AV.val (Value.map none), AV.val (Value.int IntKind.i64 (0)), AV.val (Value.int IntKind.i64 (0))] := by kernel_rfl
theorem fc_szOf_214 : szOf Try.prog 214 = 1 := by kernel_rfl
theorem fc_isAggB_214 : isAggB Try.prog 214 = some true := by kernel_rfl
theorem fc_bAV_214 : bAV Try.prog 214 = some [AV.val (Value.slice none 0 0)] := by kernel_rfl
theorem fc_szOf_216 : szOf Try.prog 216 = 9 := by kernel_rfl
theorem fc_bAV_216 : bAV Try.prog 216 = some [AV.agg [AV.val (Value.slice none 0 0)], AV.agg [AV.val (Value.string { data := { toList := [] } }), AV.val (Value.bool false), AV.val (Value.int IntKind.i64 (0)), AV.val (Value.int IntKind.i64 (0)), AV.val (Value.slice none 0 0), AV.val (Value.slice none 0 0)], AV.val (Value.slice none 0 0), AV.val (Value.int IntKind.i64 (0))] := by kernel_rfl
theorem fc_slElem_223 : slElem Try.prog 223 = some 275 := by kernel_rfl
theorem fc_szOf_223 : szOf Try.prog 223 = 1 := by kernel_rfl
theorem fc_isAggB_223 : isAggB Try.prog 223 = some false := by kernel_rfl
theorem fc_info_223 : (Try.prog.info? 223).isSome = true := by kernel_rfl
theorem fc_szOf_225 : szOf Try.prog 225 = 9 := by kernel_rfl
theorem fc_bAV_225 : bAV Try.prog 225 = some [AV.agg [AV.val (Value.string { data := { toList := [] } }), AV.val (Value.bool false), AV.val (Value.int IntKind.i64 (0)), AV.val (Value.int IntKind.i64 (0)), AV.val (Value.slice none 0 0), AV.val (Value.slice none 0 0)], AV.val (Value.slice none 0 0), AV.val (Value.slice none 0 0), AV.val (Value.slice none 0 0)] := by kernel_rfl
theorem fc_slElem_228 : slElem Try.prog 228 = some 33 := by kernel_rfl
theorem fc_szOf_234 : szOf Try.prog 234 = 10 := by kernel_rfl
theorem fc_isAggB_234 : isAggB Try.prog 234 = some true := by kernel_rfl
theorem fc_bAV_234 : bAV Try.prog 234 = some [AV.agg [AV.val (Value.slice none 0 0), AV.val (Value.slice none 0 0), AV.val (Value.slice none 0 0), AV.val (Value.int IntKind.i64 (0))], AV.agg [AV.val (Value.string { data := { toList := [] } }), AV.val (Value.bool false), AV.val (Value.int IntKind.i64 (0)), AV.val (Value.int IntKind.i64 (0)), AV.val (Value.slice none 0 0), AV.val (Value.slice none 0 0)]] := by kernel_rfl
theorem fc_szOf_246 : szOf Try.prog 246 = 9 := by kernel_rfl
theorem fc_isAggB_246 : isAggB Try.prog 246 = some true := by kernel_rfl
theorem fc_zAV_246 : zAV Try.prog 246 = some (AV.agg [AV.val (Value.int IntKind.i64 (0)), AV.val (Value.int IntKind.i64 (0)), AV.val (Value.int IntKind.i64 (0)), AV.val (Value.int IntKind.i64 (0)), AV.val (Value.int IntKind.i64 (0)), AV.val (Value.int IntKind.i64 (0)), AV.val (Value.int IntKind.i64 (0)), AV.val (Value.int IntKind.u32 (0)), AV.val (Value.int IntKind.i64 (0))]) := by kernel_rfl
theorem fc_bAV_246 : bAV Try.prog 246 = some [AV.val (Value.int IntKind.i64 (0)), AV.val (Value.int IntKind.i64 (0)), AV.val (Value.int IntKind.i64 (0)), AV.val (Value.int IntKind.i64 (0)), AV.val (Value.int IntKind.i64 (0)), AV.val (Value.int IntKind.i64 (0)), AV.val (Value.int IntKind.i64 (0)), AV.val (Value.int IntKind.u32 (0)), AV.val (Value.int IntKind.i64 (0))] := by kernel_rfl
theorem fc_info_246 : (Try.prog.info? 246).isSome = true := by kernel_rfl
theorem fc_szOf_272 : szOf Try.prog 272 = 2 := by kernel_rfl
theorem fc_zAV_272 : zAV Try.prog 272 = some (AV.agg [AV.val (Value.int IntKind.i64 (0)), AV.val (Value.slice none 0 0)]) := by kernel_rfl
theorem fc_bAV_272 : bAV Try.prog 272 = some [AV.val (Value.int IntKind.i64 (0)), AV.val (Value.slice none 0 0)] := by kernel_rfl
theorem fc_bytesOf_272 : Try.prog.bytesOf 272 = 32 := by kernel_rfl
theorem fc_slElem_273 : slElem Try.prog 273 = some 272 := by kernel_rfl
theorem fc_szOf_275 : szOf Try.prog 275 = 2 := by kernel_rfl
theorem fc_zAV_275 : zAV Try.prog 275 = some (AV.agg [AV.val (Value.int IntKind.i64 (0)), AV.val (Value.int IntKind.i64 (0))]) := by kernel_rfl
theorem fc_bytesOf_275 : Try.prog.bytesOf 275 = 16 := by kernel_rfl
theorem fc_fOff_26_0 : fOff Try.prog 26 0 = some 0 := by kernel_rfl
theorem fc_fOff_26_1 : fOff Try.prog 26 1 = some 1 := by kernel_rfl
theorem fc_fOff_26_2 : fOff Try.prog 26 2 = some 2 := by kernel_rfl
theorem fc_fOff_26_3 : fOff Try.prog 26 3 = some 3 := by kernel_rfl
theorem fc_fOff_32_1 : fOff Try.prog 32 1 = some 1 := by kernel_rfl
theorem fc_fOff_32_2 : fOff Try.prog 32 2 = some 2 := by kernel_rfl
theorem fc_fOff_32_3 : fOff Try.prog 32 3 = some 3 := by kernel_rfl
theorem fc_fOff_32_4 : fOff Try.prog 32 4 = some 4 := by kernel_rfl
theorem fc_fOff_32_5 : fOff Try.prog 32 5 = some 5 := by kernel_rfl
theorem fc_fOff_35_0 : fOff Try.prog 35 0 = some 0 := by kernel_rfl
theorem fc_fOff_35_1 : fOff Try.prog 35 1 = some 1 := by kernel_rfl
theorem fc_fOff_35_2 : fOff Try.prog 35 2 = some 2 := by kernel_rfl
theorem fc_fOff_35_3 : fOff Try.prog 35 3 = some 3 := by kernel_rfl
theorem fc_fOff_35_4 : fOff Try.prog 35 4 = some 4 := by kernel_rfl
theorem fc_fOff_39_0 : fOff Try.prog 39 0 = some 0 := by kernel_rfl
theorem fc_fOff_39_1 : fOff Try.prog 39 1 = some 1 := by kernel_rfl
theorem fc_fOff_39_2 : fOff Try.prog 39 2 = some 2 := by kernel_rfl
theorem fc_fOff_39_3 : fOff Try.prog 39 3 = some 3 := by kernel_rfl
theorem fc_fOff_39_4 : fOff Try.prog 39 4 = some 4 := by kernel_rfl
theorem fc_fOff_39_5 : fOff Try.prog 39 5 = some 5 := by kernel_rfl
theorem fc_fOff_39_6 : fOff Try.prog 39 6 = some 6 := by kernel_rfl
theorem fc_fOff_39_7 : fOff Try.prog 39 7 = some 7 := by kernel_rfl
theorem fc_fOff_39_8 : fOff Try.prog 39 8 = some 8 := by kernel_rfl
theorem fc_fOff_39_9 : fOff Try.prog 39 9 = some 9 := by kernel_rfl
theorem fc_fOff_39_10 : fOff Try.prog 39 10 = some 10 := by kernel_rfl
theorem fc_fOff_47_0 : fOff Try.prog 47 0 = some 0 := by kernel_rfl
theorem fc_fOff_47_1 : fOff Try.prog 47 1 = some 1 := by kernel_rfl
theorem fc_fOff_57_0 : fOff Try.prog 57 0 = some 0 := by kernel_rfl
theorem fc_fOff_57_1 : fOff Try.prog 57 1 = some 1 := by kernel_rfl
theorem fc_fOff_57_2 : fOff Try.prog 57 2 = some 2 := by kernel_rfl
theorem fc_fOff_71_0 : fOff Try.prog 71 0 = some 0 := by kernel_rfl
theorem fc_fOff_71_1 : fOff Try.prog 71 1 = some 1 := by kernel_rfl
theorem fc_fOff_71_2 : fOff Try.prog 71 2 = some 2 := by kernel_rfl
theorem fc_fOff_77_0 : fOff Try.prog 77 0 = some 0 := by kernel_rfl
theorem fc_fOff_77_1 : fOff Try.prog 77 1 = some 1 := by kernel_rfl
theorem fc_fOff_77_2 : fOff Try.prog 77 2 = some 2 := by kernel_rfl
theorem fc_fOff_87_0 : fOff Try.prog 87 0 = some 0 := by kernel_rfl
theorem fc_fOff_87_1 : fOff Try.prog 87 1 = some 1 := by kernel_rfl
theorem fc_fOff_87_2 : fOff Try.prog 87 2 = some 2 := by kernel_rfl
theorem fc_fOff_87_3 : fOff Try.prog 87 3 = some 3 := by kernel_rfl
theorem fc_fOff_95_1 : fOff Try.prog 95 1 = some 1 := by kernel_rfl
theorem fc_fOff_95_2 : fOff Try.prog 95 2 = some 2 := by kernel_rfl
theorem fc_fOff_101_0 : fOff Try.prog 101 0 = some 0 := by kernel_rfl
theorem fc_fOff_101_1 : fOff Try.prog 101 1 = some 6 := by kernel_rfl
theorem fc_fOff_101_2 : fOff Try.prog 101 2 = some 7 := by kernel_rfl
theorem fc_fOff_101_3 : fOff Try.prog 101 3 = some 8 := by kernel_rfl
theorem fc_fOff_101_4 : fOff Try.prog 101 4 = some 9 := by kernel_rfl
theorem fc_fOff_106_0 : fOff Try.prog 106 0 = some 0 := by kernel_rfl
theorem fc_fOff_106_1 : fOff Try.prog 106 1 = some 1 := by kernel_rfl
theorem fc_fOff_106_2 : fOff Try.prog 106 2 = some 2 := by kernel_rfl
theorem fc_fOff_106_3 : fOff Try.prog 106 3 = some 3 := by kernel_rfl
theorem fc_fOff_129_0 : fOff Try.prog 129 0 = some 0 := by kernel_rfl
theorem fc_fOff_129_1 : fOff Try.prog 129 1 = some 1 := by kernel_rfl
theorem fc_fOff_141_0 : fOff Try.prog 141 0 = some 0 := by kernel_rfl
theorem fc_fOff_141_2 : fOff Try.prog 141 2 = some 7 := by kernel_rfl
theorem fc_fOff_141_3 : fOff Try.prog 141 3 = some 8 := by kernel_rfl
theorem fc_fOff_141_4 : fOff Try.prog 141 4 = some 9 := by kernel_rfl
theorem fc_fOff_141_5 : fOff Try.prog 141 5 = some 10 := by kernel_rfl
theorem fc_fOff_149_0 : fOff Try.prog 149 0 = some 0 := by kernel_rfl
theorem fc_fOff_149_1 : fOff Try.prog 149 1 = some 6 := by kernel_rfl
theorem fc_fOff_149_2 : fOff Try.prog 149 2 = some 8 := by kernel_rfl
theorem fc_fOff_159_0 : fOff Try.prog 159 0 = some 0 := by kernel_rfl
theorem fc_fOff_159_1 : fOff Try.prog 159 1 = some 4 := by kernel_rfl
theorem fc_fOff_159_2 : fOff Try.prog 159 2 = some 5 := by kernel_rfl
theorem fc_fOff_159_3 : fOff Try.prog 159 3 = some 6 := by kernel_rfl
theorem fc_fOff_159_4 : fOff Try.prog 159 4 = some 7 := by kernel_rfl
theorem fc_fOff_159_5 : fOff Try.prog 159 5 = some 8 := by kernel_rfl
theorem fc_fOff_159_6 : fOff Try.prog 159 6 = some 12 := by kernel_rfl
theorem fc_fOff_159_7 : fOff Try.prog 159 7 = some 13 := by kernel_rfl
theorem fc_fOff_172_0 : fOff Try.prog 172 0 = some 0 := by kernel_rfl
theorem fc_fOff_172_1 : fOff Try.prog 172 1 = some 4 := by kernel_rfl
theorem fc_fOff_172_2 : fOff Try.prog 172 2 = some 10 := by kernel_rfl
theorem fc_fOff_208_0 : fOff Try.prog 208 0 = some 0 := by kernel_rfl
theorem fc_fOff_208_1 : fOff Try.prog 208 1 = some 1 := by kernel_rfl
theorem fc_fOff_208_2 : fOff Try.prog 208 2 = some 2 := by kernel_rfl
theorem fc_fOff_208_3 : fOff Try.prog 208 3 = some 3 := by kernel_rfl
theorem fc_fOff_208_4 : fOff Try.prog 208 4 = some 4 := by kernel_rfl
theorem fc_fOff_208_5 : fOff Try.prog 208 5 = some 5 := by kernel_rfl
theorem fc_fOff_214_0 : fOff Try.prog 214 0 = some 0 := by kernel_rfl
theorem fc_fOff_216_0 : fOff Try.prog 216 0 = some 0 := by kernel_rfl
theorem fc_fOff_216_2 : fOff Try.prog 216 2 = some 7 := by kernel_rfl
theorem fc_fOff_216_3 : fOff Try.prog 216 3 = some 8 := by kernel_rfl
theorem fc_fOff_225_0 : fOff Try.prog 225 0 = some 0 := by kernel_rfl
theorem fc_fOff_225_1 : fOff Try.prog 225 1 = some 6 := by kernel_rfl
theorem fc_fOff_225_2 : fOff Try.prog 225 2 = some 7 := by kernel_rfl
theorem fc_fOff_225_3 : fOff Try.prog 225 3 = some 8 := by kernel_rfl
theorem fc_fOff_234_0 : fOff Try.prog 234 0 = some 0 := by kernel_rfl
theorem fc_fOff_234_1 : fOff Try.prog 234 1 = some 4 := by kernel_rfl
theorem fc_fOff_272_0 : fOff Try.prog 272 0 = some 0 := by kernel_rfl
theorem fc_fOff_272_1 : fOff Try.prog 272 1 = some 1 := by kernel_rfl
theorem fc_arElem_27 : arElem Try.prog 27 = some (4, 1) := by kernel_rfl
attribute [go_sem] fc_arElem_27 fc_intOf_2 fc_szOf_3 fc_isAggB_3 fc_intOf_3 fc_zAV_3 fc_bytesOf_3 fc_info_3 fc_szOf_4 fc_isAggB_4 fc_isBoolT_4 fc_zAV_4 fc_bytesOf_4 fc_info_4 fc_szOf_5 fc_isAggB_5 fc_intOf_5 fc_zAV_5 fc_bytesOf_5 fc_info_5 fc_intOf_21 fc_slElem_22 fc_szOf_22 fc_isAggB_22 fc_slElem_23 fc_szOf_23 fc_isAggB_23 fc_slElem_24 fc_szOf_24 fc_isAggB_24 fc_info_24 fc_szOf_26 fc_isAggB_26 fc_zAV_26 fc_bAV_26 fc_info_26 fc_szOf_27 fc_slElem_30 fc_szOf_30 fc_isAggB_30 fc_info_30 fc_szOf_32 fc_isAggB_32 fc_zAV_32 fc_bAV_32 fc_bytesOf_32 fc_info_32 fc_slElem_33 fc_szOf_33 fc_isAggB_33 fc_zAV_33 fc_bytesOf_33 fc_info_33 fc_szOf_35 fc_isAggB_35 fc_zAV_35 fc_bAV_35 fc_bytesOf_35 fc_info_35 fc_szOf_36 fc_isAggB_36 fc_intOf_36 fc_zAV_36 fc_bytesOf_36 fc_info_36 fc_slElem_37 fc_szOf_37 fc_isAggB_37 fc_zAV_37 fc_bytesOf_37 fc_info_37 fc_szOf_39 fc_isAggB_39 fc_zAV_39 fc_bAV_39 fc_bytesOf_39 fc_info_39 fc_isPtrT_40 fc_szOf_41 fc_isAggB_41 fc_info_41 fc_slElem_44 fc_szOf_44 fc_isAggB_44 fc_info_44 fc_slElem_45 fc_szOf_45 fc_isAggB_45 fc_zAV_45 fc_bytesOf_45 fc_info_45 fc_szOf_47 fc_isAggB_47 fc_zAV_47 fc_bAV_47 fc_info_47 fc_szOf_57 fc_isAggB_57 fc_zAV_57 fc_bAV_57 fc_info_57 fc_slElem_60 fc_szOf_60 fc_isAggB_60 fc_zAV_60 fc_info_60 fc_slElem_63 fc_slElem_65 fc_szOf_68 fc_isAggB_68 fc_zAV_68 fc_bytesOf_68 fc_slElem_69 fc_szOf_69 fc_isAggB_69 fc_info_69 fc_szOf_71 fc_isAggB_71 fc_zAV_71 fc_bAV_71 fc_bytesOf_71 fc_info_71 fc_szOf_77 fc_szOf_87 fc_isAggB_87 fc_zAV_87 fc_info_87 fc_szOf_95 fc_isAggB_95 fc_zAV_95 fc_bAV_95 fc_bytesOf_95 fc_info_95 fc_slElem_96 fc_szOf_96 fc_isAggB_96 fc_slElem_97 fc_szOf_97 fc_isAggB_97 fc_info_97 fc_slElem_99 fc_szOf_99 fc_isAggB_99 fc_zAV_99 fc_bytesOf_99 fc_info_99 fc_szOf_101 fc_bAV_101 fc_szOf_106 fc_zAV_106 fc_bytesOf_106 fc_slElem_120 fc_slElem_124 fc_slElem_127 fc_szOf_127 fc_isAggB_127 fc_zAV_127 fc_bytesOf_127 fc_info_127 fc_szOf_129 fc_isAggB_129 fc_zAV_129 fc_bAV_129 fc_bytesOf_129 fc_info_129 fc_szOf_136 fc_isAggB_136 fc_zAV_136 fc_info_136 fc_slElem_139 fc_szOf_139 fc_isAggB_139 fc_info_139 fc_szOf_141 fc_bAV_141 fc_slElem_142 fc_szOf_142 fc_isAggB_142 fc_zAV_142 fc_bytesOf_142 fc_info_142 fc_slElem_146 fc_szOf_146 fc_isAggB_146 fc_zAV_146 fc_bytesOf_146 fc_info_146 fc_szOf_149 fc_bAV_149 fc_szOf_159 fc_bAV_159 fc_szOf_170 fc_isAggB_170 fc_zAV_170 fc_info_170 fc_szOf_172 fc_bAV_172 fc_szOf_180 fc_isAggB_180 fc_zAV_180 fc_bytesOf_180 fc_info_180 fc_szOf_204 fc_isAggB_204 fc_szOf_205 fc_isAggB_205 fc_szOf_206 fc_isAggB_206 fc_szOf_208 fc_bAV_208 fc_szOf_214 fc_isAggB_214 fc_bAV_214 fc_szOf_216 fc_bAV_216 fc_slElem_223 fc_szOf_223 fc_isAggB_223 fc_info_223 fc_szOf_225 fc_bAV_225 fc_slElem_228 fc_szOf_234 fc_isAggB_234 fc_bAV_234 fc_szOf_246 fc_isAggB_246 fc_zAV_246 fc_bAV_246 fc_info_246 fc_szOf_272 fc_zAV_272 fc_bAV_272 fc_bytesOf_272 fc_slElem_273 fc_szOf_275 fc_zAV_275 fc_bytesOf_275 fc_fOff_26_0 fc_fOff_26_1 fc_fOff_26_2 fc_fOff_26_3 fc_fOff_32_1 fc_fOff_32_2 fc_fOff_32_3 fc_fOff_32_4 fc_fOff_32_5 fc_fOff_35_0 fc_fOff_35_1 fc_fOff_35_2 fc_fOff_35_3 fc_fOff_35_4 fc_fOff_39_0 fc_fOff_39_1 fc_fOff_39_2 fc_fOff_39_3 fc_fOff_39_4 fc_fOff_39_5 fc_fOff_39_6 fc_fOff_39_7 fc_fOff_39_8 fc_fOff_39_9 fc_fOff_39_10 fc_fOff_47_0 fc_fOff_47_1 fc_fOff_57_0 fc_fOff_57_1 fc_fOff_57_2 fc_fOff_71_0 fc_fOff_71_1 fc_fOff_71_2 fc_fOff_77_0 fc_fOff_77_1 fc_fOff_77_2 fc_fOff_87_0 fc_fOff_87_1 fc_fOff_87_2 fc_fOff_87_3 fc_fOff_95_1 fc_fOff_95_2 fc_fOff_101_0 fc_fOff_101_1 fc_fOff_101_2 fc_fOff_101_3 fc_fOff_101_4 fc_fOff_106_0 fc_fOff_106_1 fc_fOff_106_2 fc_fOff_106_3 fc_fOff_129_0 fc_fOff_129_1 fc_fOff_141_0 fc_fOff_141_2 fc_fOff_141_3 fc_fOff_141_4 fc_fOff_141_5 fc_fOff_149_0 fc_fOff_149_1 fc_fOff_149_2 fc_fOff_159_0 fc_fOff_159_1 fc_fOff_159_2 fc_fOff_159_3 fc_fOff_159_4 fc_fOff_159_5 fc_fOff_159_6 fc_fOff_159_7 fc_fOff_172_0 fc_fOff_172_1 fc_fOff_172_2 fc_fOff_208_0 fc_fOff_208_1 fc_fOff_208_2 fc_fOff_208_3 fc_fOff_208_4 fc_fOff_208_5 fc_fOff_214_0 fc_fOff_216_0 fc_fOff_216_2 fc_fOff_216_3 fc_fOff_225_0 fc_fOff_225_1 fc_fOff_225_2 fc_fOff_225_3 fc_fOff_234_0 fc_fOff_234_1 fc_fOff_272_0 fc_fOff_272_1
end Go.Am
