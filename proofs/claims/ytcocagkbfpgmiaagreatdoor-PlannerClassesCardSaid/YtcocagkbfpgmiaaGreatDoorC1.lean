/- Part of a proof, packed. -/
import Derived.Test.YtcocagkbfpgmiaaGreatDoorCards
import Derived.Test.YtcocagkbfpgmiaaGreatDoorTie
import Derived.SevenTiedAt
import Derived.Lay
import Derived.PinnedBridge
import Derived.WalkKit
import Derived.OrdersIn
import Derived.ControlIn
import Derived.Laws.StructEq
import Derived.RangeFuncCalls
import Derived.RangeFuncRecord
import Derived.RangeFuncSeq
import Derived.Lib.Hide
import Derived.Test.YtcocagkbfpgmiaaGreatDoorRows
import Derived.ProofKit
import Derived.Shelf.Strings.Builder1
import Derived.Shelf.Strings.Builder2
import Derived.Shelf.Strings.OnBuilder
import Derived.Shelf.Small.Bits
import Derived.Shelf.Small.Wraps
import Derived.Shelf.Strings.BuilderF
import Derived.Shelf.Strings.BuilderK
import Derived.Shelf.Utf8.RuneCount
import Derived.Shelf.Strings.Builder2Cap
import Derived.Shelf.Strconv.Itoa0
import Derived.Shelf.Strings.Search1
import Derived.Shelf.Strings.Search2
import Derived.Shelf.Strings.Search3
import Derived.Shelf.Strings.Cut
import Derived.Shelf.Strings.Count
import Derived.Shelf.LaysM
import Derived.Shelf.Strings.Shaped
import Derived.Shelf.Sort.Plain
import Derived.Shelf.Strings.Split
import Derived.Shelf.Strings.SplitShaped
import Derived.Shelf.Unicode.Decode
import Derived.Shelf.Strings.RuneCount
import Derived.Shelf.Strings.Explode
import Derived.Shelf.Bits.Mul64
import Derived.Shelf.Unicode.DecodeSlow
import Derived.Shelf.Unicode.DecodeAny
import Derived.Shelf.Strings.BuilderCap
import Derived.Shelf.Slices.Equal
import Derived.Ground.Names2Prog
import Derived.Shelf.Slices.SearchI
import Derived.Shelf.Slices.In.SortNone
import Derived.Shelf.Slices.Empties
import Derived.Shelf.Slices.Empties2
import Derived.Ground.SlsfProg
import Derived.Shelf.SlSortCmp.Insertion
import Derived.Shelf.SlSortCmp.SiftDown1
import Derived.Shelf.SlSortCmp.HeapSort1
import Derived.Shelf.SlSortCmp.Insertion1
import Derived.Shelf.SlSortCmp.Median1
import Derived.Shelf.SlSortCmp.Pivot1
import Derived.Shelf.SlSortCmp.ReverseRange1
import Derived.Shelf.SlSortCmp.PartialInsertion1
import Derived.Shelf.SlSortCmp.PartitionEqual1
import Derived.Shelf.SlSortCmp.Partition1
import Derived.Shelf.SlSortCmp.Pdq1
import Derived.Shelf.SlSortCmp.Whole1
import Derived.Shelf.SlSortCmp.NoneTotal
import Derived.Test.YtcocagkbfpgmiaaGreatDoorProg
import Derived.Sort.OwnSortedInts
import Derived.Laws.CopyRow
import Derived.Laws.IdiomCopy
import Derived.Laws.Externs
import Derived.Shelf.Spec.SlicesInsertGrow
import Derived.Shelf.Spec.SlicesGrow
import Derived.Lib.QuietBelow
import Derived.Lib.SliceRun
import Derived.Lib.SlicesDelete
import Derived.Deep.RegionLaw
import Derived.WalkSmall
import Derived.Laws.BytesArg
import Derived.Lib.Strings
import Derived.Lib.SplitLaws
import Derived.OpenShut
open Go.Proofs.Tryz
set_option maxRecDepth 100000
set_option maxHeartbeats 3200000
namespace Go.Proofs.YtcocagkbfpgmiaaGreatDoor
theorem DB{p:Prop}(h:p:=by omega):p:=h
theorem DC{p:Prop}(h:p:=by simp):p:=h
theorem DD{p:Prop}(h:p:=by simp;rfl):p:=h
theorem DE{p:Prop}(h:p:=by kernel_rfl):p:=h
theorem DF{p:Prop}(h:p:=by simp;omega):p:=h
theorem DG{p:Prop}(h:p:=by rfl):p:=h
theorem DH{p:Prop}(h:p:=by decide):p:=h
theorem DI{p:Prop}(h:p:=by grind):p:=h
theorem DJ{p:Prop}(h:p:=by simp_all):p:=h
open Go Go.Proofs
abbrev Aa:=@List.getD_eq_getElem?_getD
abbrev Ab:=@List.mem_of_getElem?
abbrev Ac:=@List.getElem?_eq_some_iff
abbrev Ad:=@List.getElem?_eq_getElem
abbrev Ae:=@List.take_of_length_le
abbrev Af:=@Nat.le_refl
abbrev Ag:=@List.take_length
abbrev Ah:=@List.getElem?_map
abbrev Ai:=@List.getElem?_append_right
abbrev Aj:=@Result.andThen_ok
abbrev Ak:=@List.getElem?_eq_none
abbrev Al:=@List.flatMap_append
abbrev Am:=@Option.map_eq_some_iff
abbrev An:=@List.getElem?_append_left
abbrev Ao:=@Bool.and_eq_true
abbrev Ap:=@List.eq_nil_of_length_eq_zero
abbrev Aq:=@List.length_append
abbrev Ar:=@List.mem_map
abbrev As:=@List.length_take
abbrev Au:=@List.length_cons
abbrev Av:=@List.flatMap_cons
abbrev Aw:=@List.mem_cons
abbrev Ax:=@List.set_eq_take_append_cons_drop
abbrev Ay:=@IntKind.wrap_i64
abbrev Az:=@List.all_eq_true
abbrev AA:=@List.getElem?_toArray
abbrev AB:=@Nat.le_trans
abbrev AC:=@List.take_add_one
abbrev AD:=@List.map_cons
abbrev AE:=@Nat.add_sub_cancel_left
abbrev AF:=@List.append_nil
abbrev AG:=@List.mem_append
abbrev AH:=@List.mem_range
abbrev AI:=@List.getElem?_take_of_lt
abbrev AJ:=@List.drop_eq_getElem_cons
abbrev AK:=@List.getElem?_drop
abbrev AL:=@Int.toNat_natCast
abbrev AM:=@List.nil_append
abbrev AN:=@Int.eq_ofNat_of_zero_le
abbrev AO:=@List.take_succ_eq_append_getElem
abbrev AP:=@Bool.false_eq_true
abbrev AQ:=@Nat.zero_add
abbrev AR:=@List.set_cons_succ
abbrev AS:=@List.getElem?_set_self
abbrev AT:=@List.range_succ
abbrev AU:=@List.getElem?_set_ne
abbrev AV:=@Array.getD_eq_getD_getElem?
abbrev AW:=@List.set_cons_zero
abbrev AX:=@List.ext_getElem?
abbrev AY:=@List.foldl_cons
abbrev AZ:=@List.mem_singleton
abbrev A3:=@List.getElem?_cons_zero
abbrev A4:=@Array.getElem?_eq_getElem
abbrev A5:=@Option.map_some
abbrev A6:=@List.length_nil
abbrev A7:=@List.drop_of_length_le
abbrev A8:=@List.getElem_mem
abbrev A9:=@Nat.min_eq_left
abbrev Ba:=@List.getElem?_cons_succ
abbrev Bb:=@List.mem_iff_getElem?
abbrev Bc:=@List.pairwise_cons
abbrev Bd:=@List.map_congr_left
abbrev Be:=@Nat.lt_or_ge
abbrev Bf:=@Array.getElem?_eq_some_iff
abbrev Bg:=@List.ext_getElem
abbrev Bh:=@List.all_eq_false
abbrev Bi:=@List.mem_filter
abbrev Bj:=@List.length_drop
abbrev Bk:=@List.map_nil
abbrev Bl:=@Array.getElem?_append_left
abbrev Bm:=@World.putObj_heap_other
abbrev Bn:=@List.pairwise_iff_getElem
abbrev Bo:=@List.foldl_append
abbrev Bp:=@Nat.sub_self
abbrev Bq:=@Nat.lt_of_lt_of_le
abbrev Br:=@Array.getElem?_modify
abbrev Bs:=@Nat.add_zero
abbrev Bt:=@List.getElem?_range
abbrev Bu:=@List.replicate_succ
abbrev Bv:=@List.all_append
abbrev Bw:=@List.set_append_right
abbrev Bx:=@List.length_filter_le
abbrev By:=@List.length_singleton
abbrev Bz:=@List.getElem?_set
abbrev BA:=@List.getElem?_take
abbrev BB:=@List.mem_or_eq_of_mem_set
abbrev BC:=@Array.toList_inj
abbrev BD:=@List.take_append_of_le_length
abbrev BE:=@List.mem_flatten
abbrev BF:=@List.drop_length
abbrev BG:=@List.size_toArray
abbrev BH:=@List.flatten_cons
abbrev BI:=@Array.getElem?_append_right
abbrev BJ:=@List.length_set
abbrev BK:=@List.not_mem_nil
abbrev BL:=@Int.tmod_eq_emod_of_nonneg
abbrev BM:=@List.length_eraseIdx_of_lt
abbrev BN:=@List.drop_eq_nil_of_le
abbrev BO:=@Array.getElem?_extract
abbrev BP:=@World.putObj_heap_same
abbrev BQ:=@List.length_pos_iff
abbrev BR:=@List.filterMap_append
abbrev BS:=@Array.getElem?_setIfInBounds_self_of_lt
abbrev BT:=@Nat.eq_zero_or_pos
abbrev BU:=@Nat.pos_of_ne_zero
abbrev BV:=@Option.isSome_iff_exists
abbrev BW:=@Nat.add_sub_cancel
abbrev BX:=@List.filter_append
abbrev BY:=@List.mem_flatMap
abbrev BZ:=@List.drop_append_of_le_length
abbrev B0:=@List.any_eq_true
abbrev B1:=@Array.mem_toList_iff
abbrev B3:=@List.getElem?_of_mem
abbrev B4:=@Nat.mul_one
abbrev B5:=@List.mergeSort_perm
abbrev B6:=@List.filter_cons
abbrev B7:=@List.mem_filterMap
abbrev B8:=@List.mem_cons_self
abbrev B9:=@List.length_replicate
abbrev Ca:=@Nat.zero_le
abbrev Cb:=@List.mem_of_mem_drop
abbrev Cc:=@Nat.mul_le_mul_right
abbrev Cd:=@Nat.pow_le_pow_right
abbrev Cf:=@List.mem_of_mem_take
abbrev Cg:=@Bool.not_eq_true'
abbrev Ch:=@Array.size_append
abbrev Ci:=@Nat.le_succ_of_le
abbrev Cj:=@List.all_cons
abbrev Ck:=@List.sum_cons
abbrev Cl:=@List.length_eq_zero_iff
abbrev Cm:=@List.flatMap_nil
abbrev Cn:=@Bool.false_and
abbrev Co:=@Nat.le_of_eq
abbrev Cp:=@List.contains_iff_mem
abbrev Cq:=@Nat.pow_lt_pow_right
abbrev Cr:=@Bool.and_false
abbrev Cs:=@List.drop_append
abbrev Ct:=@List.getElem_map
abbrev Cu:=@List.map_map
abbrev Cv:=@List.length_filterMap_le
abbrev Cw:=@Nat.le_mul_of_pos_right
abbrev Cx:=@List.getElem_range
abbrev Cy:=@List.pairwise_mergeSort
abbrev Cz:=@List.nodup_cons
abbrev CA:=@Option.isSome_none
abbrev CB:=@Nat.lt_irrefl
abbrev CC:=@List.range_succ_eq_map
abbrev CD:=@Nat.le_succ
abbrev CE:=@List.any_eq_false
abbrev CF:=@List.pairwise_map
abbrev CG:=@List.eraseIdx_eq_take_drop_succ
abbrev CH:=@Array.getElem?_setIfInBounds_ne
abbrev CI:=@Nat.zero_mul
abbrev CJ:=@List.perm_append_comm
abbrev CK:=@Bool.and_eq_false_iff
abbrev CL:=@List.singleton_append
abbrev CM:=@Option.ite_none_right_eq_some
abbrev CN:=@List.getElem_set
abbrev CO:=@Nat.le_add_right
abbrev CP:=@List.mem_cons_of_mem
abbrev CR:=@Bool.and_true
abbrev CU:=@Array.getElem?_setIfInBounds
abbrev CV:=@List.take_succ_cons
abbrev CW:=@Int.le_refl
abbrev CX:=@Int.tdiv_eq_ediv_of_nonneg
abbrev CY:=@List.perm_ext_iff_of_nodup
abbrev CZ:=@List.take_zero
abbrev C4:=@Bool.not_false
abbrev C5:=@List.range_add
abbrev C6:=@List.drop_zero
abbrev C7:=@Array.range_zero'
abbrev C8:=@Array.getElem_mem
abbrev C9:=@List.length_erase_of_mem
abbrev Da:=@Array.getElem?_replicate
abbrev Db:=@List.nodup_append
abbrev Dc:=@List.reverse_cons
abbrev Dd:=@List.take_nil
abbrev De:=@Bool.true_and
abbrev Df:=@List.map_toArray
abbrev Dg:=@Option.bind_some
abbrev Dh:=@List.suffix_refl
abbrev Di:=@Nat.lt_of_not_le
abbrev Dj:=@List.getElem?_eraseIdx
abbrev Dk:=@Array.getElem?_eq_none
abbrev Dl:=@List.length_pos_of_mem
abbrev Dm:=@List.filter_eq_nil_iff
abbrev Dn:=@Nat.testBit_lt_two_pow
abbrev Do:=@List.all_nil
abbrev Dp:=@Array.map_empty
abbrev Dq:=@Bool.or_eq_true
abbrev Dr:=@Bool.eq_iff_iff
abbrev Ds:=@Int.ne_of_lt
abbrev Dt:=@World.alloc_eq
abbrev Du:=@List.take_take
abbrev Dv:=@Nat.min_def
abbrev Dw:=@Nat.one_mul
abbrev Dx:=@Int.not_lt
abbrev Dy:=@Nat.sub_zero
abbrev Dz:=@Nat.pow_succ
abbrev DA:=@Nat.le_of_lt
end Go.Proofs.YtcocagkbfpgmiaaGreatDoor
namespace Go.Proofs
open Go.Shelf
def Tryz.lays156_ren:Go.Shelf.Ren:=⟨fun | 156=>97 | 165=>133 | 166=>61 | 169=>64 | 240=>98 | 241=>188 | 276=>134 | 277=>221 | n=>n,fun | 31=>81 | 9=>9 | 3=>3 | 4=>4 | 0=>0 | 20=>20 | 72=>113 | 76=>116 | 70=>110 | 37=>111 | 75=>115 | 127=>161 | 164=>191 | 5=>5 | 80=>120 | n=>n,fun | n=>n⟩
theorem Tryz.lays156:Go.Proofs.Lays.n156 prog Tryz.lays156_ren:={
 mixed:=by kernel_rfl
 f156:=Tryz.func97.trans (congrArg some (by kernel_rfl))
 f165:=Tryz.func133.trans (congrArg some (by kernel_rfl))
 f166:=Tryz.func61.trans (congrArg some (by kernel_rfl))
 f169:=Tryz.func64.trans (congrArg some (by kernel_rfl))
 f240:=Tryz.func98.trans (congrArg some (by kernel_rfl))
 f241:=Tryz.func188.trans (congrArg some (by kernel_rfl))
 f276:=Tryz.func134.trans (congrArg some (by kernel_rfl))
 f277:=Tryz.func221.trans (congrArg some (by kernel_rfl))
 t0:=Tryz.underlying0
 a0:=Tryz.isAgg0
 z0:=Tryz.sizeOf0
 v0:=Tryz.zeroValue0
 t3:=Tryz.underlying3
 a3:=Tryz.isAgg3
 z3:=Tryz.sizeOf3
 v3:=Tryz.zeroValue3
 t4:=Tryz.underlying4
 a4:=Tryz.isAgg4
 z4:=Tryz.sizeOf4
 v4:=Tryz.zeroValue4
 t9:=Tryz.underlying9
 a9:=Tryz.isAgg9
 z9:=Tryz.sizeOf9
 v9:=Tryz.zeroValue9
 t20:=Tryz.underlying20
 a20:=Tryz.isAgg20
 z20:=Tryz.sizeOf20
 v20:=Tryz.zeroValue20
 t31:=Tryz.underlying81
 a31:=Tryz.isAgg81
 z31:=Tryz.sizeOf81
 v31:=Tryz.zeroValue81
 t37:=Tryz.underlying111
 a37:=Tryz.isAgg111
 z37:=Tryz.sizeOf111
 v37:=Tryz.zeroValue111
 t70:=Tryz.underlying110
 a70:=Tryz.isAgg110
 z70:=Tryz.sizeOf110
 v70:=Tryz.zeroValue110
 t72:=Tryz.underlying113
 a72:=Tryz.isAgg113
 z72:=Tryz.sizeOf113
 v72:=Tryz.zeroValue113
 t75:=Tryz.underlying115
 a75:=Tryz.isAgg115
 z75:=Tryz.sizeOf115
 v75:=Tryz.zeroValue115
 t76:=Tryz.underlying116
 a76:=Tryz.isAgg116
 z76:=Tryz.sizeOf116
 v76:=Tryz.zeroValue116
 t127:=Tryz.underlying161
 a127:=Tryz.isAgg161
 z127:=Tryz.sizeOf161
 v127:=Tryz.zeroValue161
 t164:=Tryz.underlying191
 a164:=Tryz.isAgg191
 z164:=Tryz.sizeOf191
 v164:=Tryz.zeroValue191 }
theorem Tryz.Builder_Extra_156:Builder.Extra prog Tryz.lays156_ren:={
 sizeBuilder:=by kernel_rfl
 liesBuilder:=by kernel_rfl
 t5:=Tryz.underlying5
 a5:=Tryz.isAgg5
 z5:=Tryz.sizeOf5
 v5:=Tryz.zeroValue5
 infoByte:=by kernel_rfl
 cellsByte:=by kernel_rfl
 sizeByte:=by kernel_rfl
 neB5:=by decide }
def Tryz.lays219_ren:Go.Shelf.Ren:=⟨fun | 219=>222 | 217=>253 | 225=>254 | 224=>255 | 267=>256 | 266=>293 | 314=>294 | n=>n,fun | 9=>9 | 3=>3 | 4=>4 | 5=>5 | 46=>228 | 146=>294 | 51=>293 | n=>n,fun | 1=>0 | n=>n⟩
theorem Tryz.lays219:Go.Proofs.Lays.n219 prog Tryz.lays219_ren:={
 mixed:=by kernel_rfl
 f217:=Tryz.func253.trans (congrArg some (by kernel_rfl))
 f219:=Tryz.func222.trans (congrArg some (by kernel_rfl))
 f224:=Tryz.func255.trans (congrArg some (by kernel_rfl))
 f225:=Tryz.func254.trans (congrArg some (by kernel_rfl))
 f266:=Tryz.func293.trans (congrArg some (by kernel_rfl))
 f267:=Tryz.func256.trans (congrArg some (by kernel_rfl))
 f314:=Tryz.func294.trans (congrArg some (by kernel_rfl))
 t3:=Tryz.underlying3
 a3:=Tryz.isAgg3
 z3:=Tryz.sizeOf3
 v3:=Tryz.zeroValue3
 t4:=Tryz.underlying4
 a4:=Tryz.isAgg4
 z4:=Tryz.sizeOf4
 v4:=Tryz.zeroValue4
 t5:=Tryz.underlying5
 a5:=Tryz.isAgg5
 z5:=Tryz.sizeOf5
 v5:=Tryz.zeroValue5
 t9:=Tryz.underlying9
 a9:=Tryz.isAgg9
 z9:=Tryz.sizeOf9
 v9:=Tryz.zeroValue9
 t46:=Tryz.underlying228
 a46:=Tryz.isAgg228
 z46:=Tryz.sizeOf228
 v46:=Tryz.zeroValue228
 t51:=Tryz.underlying293
 a51:=Tryz.isAgg293
 z51:=Tryz.sizeOf293
 v51:=Tryz.zeroValue293
 t146:=Tryz.underlying294
 a146:=Tryz.isAgg294
 z146:=Tryz.sizeOf294
 v146:=Tryz.zeroValue294
 g1:=by kernel_rfl }
open Go.RowKit Go.Lib in
theorem Tryz.stringslite_Index_one(s:ByteArray)(c:UInt8)(w:World):
  Calls prog 222 #[.string s,.string ⟨#[c]⟩] w λe w'=>e=.returned (.int .i64 (Lib.indexByte s.data.toList c))/\w'=w:=Any.stringslite_Index_one Tryz.lays219 s c w
def Tryz.lays143_ren:Go.Shelf.Ren:=⟨fun | 143=>225 | 219=>222 | 217=>253 | 225=>254 | 224=>255 | 267=>256 | 266=>293 | 314=>294 | n=>n,fun | 9=>9 | 3=>3 | 4=>4 | 5=>5 | 46=>228 | 146=>294 | 51=>293 | n=>n,fun | 1=>0 | n=>n⟩
theorem Tryz.lays143:Go.Proofs.Lays.n143 prog Tryz.lays143_ren:={
 mixed:=by kernel_rfl
 f143:=Tryz.func225.trans (congrArg some (by kernel_rfl))
 f217:=Tryz.func253.trans (congrArg some (by kernel_rfl))
 f219:=Tryz.func222.trans (congrArg some (by kernel_rfl))
 f224:=Tryz.func255.trans (congrArg some (by kernel_rfl))
 f225:=Tryz.func254.trans (congrArg some (by kernel_rfl))
 f266:=Tryz.func293.trans (congrArg some (by kernel_rfl))
 f267:=Tryz.func256.trans (congrArg some (by kernel_rfl))
 f314:=Tryz.func294.trans (congrArg some (by kernel_rfl))
 t3:=Tryz.underlying3
 a3:=Tryz.isAgg3
 z3:=Tryz.sizeOf3
 v3:=Tryz.zeroValue3
 t4:=Tryz.underlying4
 a4:=Tryz.isAgg4
 z4:=Tryz.sizeOf4
 v4:=Tryz.zeroValue4
 t5:=Tryz.underlying5
 a5:=Tryz.isAgg5
 z5:=Tryz.sizeOf5
 v5:=Tryz.zeroValue5
 t9:=Tryz.underlying9
 a9:=Tryz.isAgg9
 z9:=Tryz.sizeOf9
 v9:=Tryz.zeroValue9
 t46:=Tryz.underlying228
 a46:=Tryz.isAgg228
 z46:=Tryz.sizeOf228
 v46:=Tryz.zeroValue228
 t51:=Tryz.underlying293
 a51:=Tryz.isAgg293
 z51:=Tryz.sizeOf293
 v51:=Tryz.zeroValue293
 t146:=Tryz.underlying294
 a146:=Tryz.isAgg294
 z146:=Tryz.sizeOf294
 v146:=Tryz.zeroValue294
 g1:=by kernel_rfl }
open Go.RowKit Go.Lib in
theorem Tryz.strings_Index_one(s:ByteArray)(c:UInt8)(w:World):
  Calls prog 225 #[.string s,.string ⟨#[c]⟩] w λe w'=>e=.returned (.int .i64 (Lib.indexByte s.data.toList c))/\w'=w:=Any.strings_Index_one Tryz.lays143 s c w
def Tryz.lays138_ren:Go.Shelf.Ren:=⟨fun | 138=>224 | 195=>257 | 218=>259 | 143=>225 | 219=>222 | 217=>253 | 225=>254 | 224=>255 | 267=>256 | 266=>293 | 314=>294 | n=>n,fun | 9=>9 | 3=>3 | 4=>4 | 5=>5 | 0=>0 | 46=>228 | 146=>294 | 51=>293 | n=>n,fun | 1=>0 | n=>n⟩
theorem Tryz.lays138:Go.Proofs.Lays.n138 prog Tryz.lays138_ren:={
 mixed:=by kernel_rfl
 f138:=Tryz.func224.trans (congrArg some (by kernel_rfl))
 f143:=Tryz.func225.trans (congrArg some (by kernel_rfl))
 f195:=Tryz.func257.trans (congrArg some (by kernel_rfl))
 f217:=Tryz.func253.trans (congrArg some (by kernel_rfl))
 f218:=Tryz.func259.trans (congrArg some (by kernel_rfl))
 f219:=Tryz.func222.trans (congrArg some (by kernel_rfl))
 f224:=Tryz.func255.trans (congrArg some (by kernel_rfl))
 f225:=Tryz.func254.trans (congrArg some (by kernel_rfl))
 f266:=Tryz.func293.trans (congrArg some (by kernel_rfl))
 f267:=Tryz.func256.trans (congrArg some (by kernel_rfl))
 f314:=Tryz.func294.trans (congrArg some (by kernel_rfl))
 t0:=Tryz.underlying0
 a0:=Tryz.isAgg0
 z0:=Tryz.sizeOf0
 v0:=Tryz.zeroValue0
 t3:=Tryz.underlying3
 a3:=Tryz.isAgg3
 z3:=Tryz.sizeOf3
 v3:=Tryz.zeroValue3
 t4:=Tryz.underlying4
 a4:=Tryz.isAgg4
 z4:=Tryz.sizeOf4
 v4:=Tryz.zeroValue4
 t5:=Tryz.underlying5
 a5:=Tryz.isAgg5
 z5:=Tryz.sizeOf5
 v5:=Tryz.zeroValue5
 t9:=Tryz.underlying9
 a9:=Tryz.isAgg9
 z9:=Tryz.sizeOf9
 v9:=Tryz.zeroValue9
 t46:=Tryz.underlying228
 a46:=Tryz.isAgg228
 z46:=Tryz.sizeOf228
 v46:=Tryz.zeroValue228
 t51:=Tryz.underlying293
 a51:=Tryz.isAgg293
 z51:=Tryz.sizeOf293
 v51:=Tryz.zeroValue293
 t146:=Tryz.underlying294
 a146:=Tryz.isAgg294
 z146:=Tryz.sizeOf294
 v146:=Tryz.zeroValue294
 g1:=by kernel_rfl }
open Go.RowKit Go.Lib in
theorem Tryz.strings_Count_one(s:ByteArray)(c:UInt8)(w:World):
  Calls prog 224 #[.string s,.string ⟨#[c]⟩] w λe w'=>e=.returned (.int .i64 (Lib.countByte s.data.toList c))/\w'=w:=Any.strings_Count_one Tryz.lays138 s c w
def Tryz.lays189_ren:Go.Shelf.Ren:=⟨fun | 189=>196 | 125=>241 | 257=>240 | 128=>272 | 129=>273 | 294=>263 | 295=>264 | 296=>265 | 297=>266 | 298=>267 | 299=>268 | 216=>269 | 300=>270 | 301=>271 | 328=>298 | 329=>299 | 330=>300 | 331=>301 | 332=>302 | 215=>303 | 343=>330 | n=>n,fun | 28=>26 | 3=>3 | 46=>228 | 0=>0 | 51=>293 | 53=>98 | 4=>4 | 183=>311 | 182=>310 | 131=>124 | 5=>5 | 9=>9 | 218=>345 | 222=>167 | 228=>381 | 229=>219 | n=>n,fun | n=>n⟩
theorem Tryz.lays189:Go.Proofs.Lays.n189 prog Tryz.lays189_ren:={
 mixed:=by kernel_rfl
 f125:=Tryz.func241.trans (congrArg some (by kernel_rfl))
 f128:=Tryz.func272.trans (congrArg some (by kernel_rfl))
 f129:=Tryz.func273.trans (congrArg some (by kernel_rfl))
 f189:=Tryz.func196.trans (congrArg some (by kernel_rfl))
 f215:=Tryz.func303.trans (congrArg some (by kernel_rfl))
 f216:=Tryz.func269.trans (congrArg some (by kernel_rfl))
 f257:=Tryz.func240.trans (congrArg some (by kernel_rfl))
 f294:=Tryz.func263.trans (congrArg some (by kernel_rfl))
 f295:=Tryz.func264.trans (congrArg some (by kernel_rfl))
 f296:=Tryz.func265.trans (congrArg some (by kernel_rfl))
 f297:=Tryz.func266.trans (congrArg some (by kernel_rfl))
 f298:=Tryz.func267.trans (congrArg some (by kernel_rfl))
 f299:=Tryz.func268.trans (congrArg some (by kernel_rfl))
 f300:=Tryz.func270.trans (congrArg some (by kernel_rfl))
 f301:=Tryz.func271.trans (congrArg some (by kernel_rfl))
 f328:=Tryz.func298.trans (congrArg some (by kernel_rfl))
 f329:=Tryz.func299.trans (congrArg some (by kernel_rfl))
 f330:=Tryz.func300.trans (congrArg some (by kernel_rfl))
 f331:=Tryz.func301.trans (congrArg some (by kernel_rfl))
 f332:=Tryz.func302.trans (congrArg some (by kernel_rfl))
 f343:=Tryz.func330.trans (congrArg some (by kernel_rfl))
 t0:=Tryz.underlying0
 a0:=Tryz.isAgg0
 z0:=Tryz.sizeOf0
 v0:=Tryz.zeroValue0
 t3:=Tryz.underlying3
 a3:=Tryz.isAgg3
 z3:=Tryz.sizeOf3
 v3:=Tryz.zeroValue3
 t4:=Tryz.underlying4
 a4:=Tryz.isAgg4
 z4:=Tryz.sizeOf4
 v4:=Tryz.zeroValue4
 t5:=Tryz.underlying5
 a5:=Tryz.isAgg5
 z5:=Tryz.sizeOf5
 v5:=Tryz.zeroValue5
 t9:=Tryz.underlying9
 a9:=Tryz.isAgg9
 z9:=Tryz.sizeOf9
 v9:=Tryz.zeroValue9
 t28:=Tryz.underlying26
 a28:=Tryz.isAgg26
 z28:=Tryz.sizeOf26
 v28:=Tryz.zeroValue26
 t46:=Tryz.underlying228
 a46:=Tryz.isAgg228
 z46:=Tryz.sizeOf228
 v46:=Tryz.zeroValue228
 t51:=Tryz.underlying293
 a51:=Tryz.isAgg293
 z51:=Tryz.sizeOf293
 v51:=Tryz.zeroValue293
 t53:=Tryz.underlying98
 a53:=Tryz.isAgg98
 z53:=Tryz.sizeOf98
 v53:=Tryz.zeroValue98
 t131:=Tryz.underlying124
 a131:=Tryz.isAgg124
 z131:=Tryz.sizeOf124
 v131:=Tryz.zeroValue124
 t182:=Tryz.underlying310
 a182:=Tryz.isAgg310
 z182:=Tryz.sizeOf310
 v182:=Tryz.zeroValue310
 t183:=Tryz.underlying311
 a183:=Tryz.isAgg311
 z183:=Tryz.sizeOf311
 v183:=Tryz.zeroValue311
 t218:=Tryz.underlying345
 a218:=Tryz.isAgg345
 z218:=Tryz.sizeOf345
 v218:=Tryz.zeroValue345
 t222:=Tryz.underlying167
 a222:=Tryz.isAgg167
 z222:=Tryz.sizeOf167
 v222:=Tryz.zeroValue167
 t228:=Tryz.underlying381
 a228:=Tryz.isAgg381
 z228:=Tryz.sizeOf381
 v228:=Tryz.zeroValue381
 t229:=Tryz.underlying219
 a229:=Tryz.isAgg219
 z229:=Tryz.sizeOf219
 v229:=Tryz.zeroValue219 }
open Go.Sort Go.RowKit in
theorem Tryz.slices_Sort_int(blk off cap:Nat)(zs:List Int)(w:World)(hH:Holds (Value.int .i64) w blk off zs.toArray)(hblk:blk<w.heap.size)(hsz:zs.length<4611686018427387904):
  Calls prog 196 #[.slice (some ⟨blk,off,none⟩) zs.length cap] w λe w' =>
   e=.returned (.tuple #[])/\∃n os,w'=grow (putRow (Value.int .i64) (Sort.ahead w n) blk off (zs.mergeSort λx y=>decide (x<=y)).toArray) os:=Any.slices_Sort_int Tryz.lays189 blk off cap zs w hH hblk hsz
def Tryz.lays221_ren:Go.Shelf.Ren:=⟨fun | 221=>190 | 268=>223 | 138=>224 | 143=>225 | 195=>257 | 197=>258 | 218=>259 | 219=>222 | 260=>295 | 217=>253 | 225=>254 | 224=>255 | 267=>256 | 266=>293 | 314=>294 | n=>n,fun | 9=>9 | 3=>3 | 31=>81 | 4=>4 | 0=>0 | 105=>307 | 21=>21 | 5=>5 | 46=>228 | 119=>377 | 139=>380 | 138=>379 | 146=>294 | 51=>293 | n=>n,fun | 1=>0 | 3=>1 | 4=>2 | n=>n⟩
theorem Tryz.lays221:Go.Proofs.Lays.n221 prog Tryz.lays221_ren:={
 mixed:=by kernel_rfl
 f138:=Tryz.func224.trans (congrArg some (by kernel_rfl))
 f143:=Tryz.func225.trans (congrArg some (by kernel_rfl))
 f195:=Tryz.func257.trans (congrArg some (by kernel_rfl))
 f197:=Tryz.func258.trans (congrArg some (by kernel_rfl))
 f217:=Tryz.func253.trans (congrArg some (by kernel_rfl))
 f218:=Tryz.func259.trans (congrArg some (by kernel_rfl))
 f219:=Tryz.func222.trans (congrArg some (by kernel_rfl))
 f221:=Tryz.func190.trans (congrArg some (by kernel_rfl))
 f224:=Tryz.func255.trans (congrArg some (by kernel_rfl))
 f225:=Tryz.func254.trans (congrArg some (by kernel_rfl))
 f260:=Tryz.func295.trans (congrArg some (by kernel_rfl))
 f266:=Tryz.func293.trans (congrArg some (by kernel_rfl))
 f267:=Tryz.func256.trans (congrArg some (by kernel_rfl))
 f268:=Tryz.func223.trans (congrArg some (by kernel_rfl))
 f314:=Tryz.func294.trans (congrArg some (by kernel_rfl))
 t0:=Tryz.underlying0
 a0:=Tryz.isAgg0
 z0:=Tryz.sizeOf0
 v0:=Tryz.zeroValue0
 t3:=Tryz.underlying3
 a3:=Tryz.isAgg3
 z3:=Tryz.sizeOf3
 v3:=Tryz.zeroValue3
 t4:=Tryz.underlying4
 a4:=Tryz.isAgg4
 z4:=Tryz.sizeOf4
 v4:=Tryz.zeroValue4
 t5:=Tryz.underlying5
 a5:=Tryz.isAgg5
 z5:=Tryz.sizeOf5
 v5:=Tryz.zeroValue5
 t9:=Tryz.underlying9
 a9:=Tryz.isAgg9
 z9:=Tryz.sizeOf9
 v9:=Tryz.zeroValue9
 t21:=Tryz.underlying21
 a21:=Tryz.isAgg21
 z21:=Tryz.sizeOf21
 v21:=Tryz.zeroValue21
 t31:=Tryz.underlying81
 a31:=Tryz.isAgg81
 z31:=Tryz.sizeOf81
 v31:=Tryz.zeroValue81
 t46:=Tryz.underlying228
 a46:=Tryz.isAgg228
 z46:=Tryz.sizeOf228
 v46:=Tryz.zeroValue228
 t51:=Tryz.underlying293
 a51:=Tryz.isAgg293
 z51:=Tryz.sizeOf293
 v51:=Tryz.zeroValue293
 t105:=Tryz.underlying307
 a105:=Tryz.isAgg307
 z105:=Tryz.sizeOf307
 v105:=Tryz.zeroValue307
 t119:=Tryz.underlying377
 a119:=Tryz.isAgg377
 z119:=Tryz.sizeOf377
 t138:=Tryz.underlying379
 a138:=Tryz.isAgg379
 z138:=Tryz.sizeOf379
 v138:=Tryz.zeroValue379
 t139:=Tryz.underlying380
 a139:=Tryz.isAgg380
 z139:=Tryz.sizeOf380
 v139:=Tryz.zeroValue380
 t146:=Tryz.underlying294
 a146:=Tryz.isAgg294
 z146:=Tryz.sizeOf294
 v146:=Tryz.zeroValue294
 g1:=by kernel_rfl
 g3:=by kernel_rfl
 g4:=by kernel_rfl }
def Tryz.lays212_ren:Go.Shelf.Ren:=⟨fun | 212=>206 | 263=>244 | 264=>245 | n=>n,fun | 46=>228 | 51=>293 | 146=>294 | 53=>98 | 148=>296 | n=>n,fun | n=>n⟩
theorem Tryz.lays212:Go.Proofs.Lays.n212 prog Tryz.lays212_ren:={
 mixed:=by kernel_rfl
 f212:=Tryz.func206.trans (congrArg some (by kernel_rfl))
 f263:=Tryz.func244.trans (congrArg some (by kernel_rfl))
 f264:=Tryz.func245.trans (congrArg some (by kernel_rfl))
 t46:=Tryz.underlying228
 a46:=Tryz.isAgg228
 z46:=Tryz.sizeOf228
 v46:=Tryz.zeroValue228
 t51:=Tryz.underlying293
 a51:=Tryz.isAgg293
 z51:=Tryz.sizeOf293
 v51:=Tryz.zeroValue293
 t53:=Tryz.underlying98
 a53:=Tryz.isAgg98
 z53:=Tryz.sizeOf98
 v53:=Tryz.zeroValue98
 t146:=Tryz.underlying294
 a146:=Tryz.isAgg294
 z146:=Tryz.sizeOf294
 v146:=Tryz.zeroValue294
 t148:=Tryz.underlying296
 a148:=Tryz.isAgg296
 z148:=Tryz.sizeOf296
 v148:=Tryz.zeroValue296 }
open Go.RowKit Go.Lib in
theorem Tryz.bits_Mul(x y:Nat)(hx:x<18446744073709551616)(hy:y<18446744073709551616)(w:World):
  Calls prog 206 #[.int .u64 x,.int .u64 y] w λe w'=>e=.returned (.tuple #[.int .u64 ((x*y / 18446744073709551616:Nat):Int),.int .u64 ((x*y % 18446744073709551616:Nat):Int)])/\w'=w:=Any.bits_Mul Tryz.lays212 x y hx hy w
def Tryz.laysNm225_ren:Go.Shelf.Ren:=⟨fun | 25=>353 | 31=>269 | 32=>371 | 37=>303 | n=>n,fun | 22=>26 | 3=>3 | 4=>4 | 40=>228 | 0=>0 | n=>n,fun | n=>n⟩
theorem Tryz.laysNm225:Go.Proofs.Lays2.n25 prog Tryz.laysNm225_ren:={
 mixed:=by kernel_rfl
 f25:=Tryz.func353.trans (congrArg some (by kernel_rfl))
 f31:=Tryz.func269.trans (congrArg some (by kernel_rfl))
 f32:=Tryz.func371.trans (congrArg some (by kernel_rfl))
 f37:=Tryz.func303.trans (congrArg some (by kernel_rfl))
 t0:=Tryz.underlying0
 a0:=Tryz.isAgg0
 z0:=Tryz.sizeOf0
 v0:=Tryz.zeroValue0
 t3:=Tryz.underlying3
 a3:=Tryz.isAgg3
 z3:=Tryz.sizeOf3
 v3:=Tryz.zeroValue3
 t4:=Tryz.underlying4
 a4:=Tryz.isAgg4
 z4:=Tryz.sizeOf4
 v4:=Tryz.zeroValue4
 t22:=Tryz.underlying26
 a22:=Tryz.isAgg26
 z22:=Tryz.sizeOf26
 v22:=Tryz.zeroValue26
 t40:=Tryz.underlying228
 a40:=Tryz.isAgg228
 z40:=Tryz.sizeOf228
 v40:=Tryz.zeroValue228 }
open Go.RowKit Go.Lib in
theorem Tryz.slices_BinarySearch_int(b off n c:Nat)(zs:List Int)(x:Int)(w:World)(hz:n<=zs.length)(hbig:n<4611686018427387904)(hc:∀j,j<zs.length->w.cell? ⟨b,off+j,none⟩=some (.int .i64 (zs.getD j 0)))(hs:(zs.take n).Pairwise (·<=·)):
  Calls prog 353 #[.slice (some ⟨b,off,none⟩) n c,.int .i64 x] w λe w'=>e=.returned (.tuple #[.int .i64 ((zs.take n).countP (·<x):Nat),.bool ((zs.take n).contains x)])/\∃q,w'=w.drewN q:=Any.slices_BinarySearch_int Tryz.laysNm225 b off n c zs x w hz hbig hc hs
open Go.RowKit Go.Sort in
theorem Tryz.slices_Sort_int_none(p:Option Addr)(cap:Nat)(w:World):
  Calls prog 196 #[.slice p 0 cap] w λe w'=>e=.returned (.tuple #[])/\w'=w:=Any.slices_Sort_int_none Tryz.lays189 p cap w
open Go.RowKit Go.Lib in
theorem Tryz.slices_BinarySearch_int_empty(a:Option Addr)(c:Nat)(x:Int)(w:World):
  Calls prog 353 #[.slice a 0 c,.int .i64 x] w λe w'=>e=.returned (.tuple #[.int .i64 0,.bool false])/\w'=w:=Any.slices_BinarySearch_int_empty Tryz.laysNm225 a c x w
def Tryz.laysSlF6_f373_ren:Go.Shelf.Ren:=⟨fun | 6=>373 | 15=>241 | 14=>379 | 28=>272 | 29=>273 | 20=>381 | 21=>382 | 22=>383 | 23=>384 | 24=>385 | 25=>386 | 26=>387 | 27=>388 | 46=>389 | 47=>299 | 48=>300 | 49=>390 | 50=>391 | 57=>392 | n=>n,fun | 22=>26 | 24=>3 | 25=>58 | 3=>3 | 39=>228 | 0=>0 | 53=>293 | 55=>98 | 4=>4 | 46=>311 | 45=>310 | 50=>124 | 5=>5 | 9=>9 | 66=>345 | 70=>167 | 76=>381 | 77=>219 | n=>n,fun | n=>n⟩
theorem Tryz.laysSlF6_f373:Go.Proofs.SlLaysF.n6 prog Tryz.laysSlF6_f373_ren:={
 mixed:=by kernel_rfl
 f6:=⟨Tryz.f373.name,by decide,Tryz.func373.trans (congrArg some (by kernel_rfl))⟩
 f14:=⟨Tryz.f379.name,by decide,Tryz.func379.trans (congrArg some (by kernel_rfl))⟩
 f15:=Tryz.func241.trans (congrArg some (by kernel_rfl))
 f20:=⟨Tryz.f381.name,by decide,Tryz.func381.trans (congrArg some (by kernel_rfl))⟩
 f21:=⟨Tryz.f382.name,by decide,Tryz.func382.trans (congrArg some (by kernel_rfl))⟩
 f22:=⟨Tryz.f383.name,by decide,Tryz.func383.trans (congrArg some (by kernel_rfl))⟩
 f23:=⟨Tryz.f384.name,by decide,Tryz.func384.trans (congrArg some (by kernel_rfl))⟩
 f24:=⟨Tryz.f385.name,by decide,Tryz.func385.trans (congrArg some (by kernel_rfl))⟩
 f25:=⟨Tryz.f386.name,by decide,Tryz.func386.trans (congrArg some (by kernel_rfl))⟩
 f26:=⟨Tryz.f387.name,by decide,Tryz.func387.trans (congrArg some (by kernel_rfl))⟩
 f27:=⟨Tryz.f388.name,by decide,Tryz.func388.trans (congrArg some (by kernel_rfl))⟩
 f28:=Tryz.func272.trans (congrArg some (by kernel_rfl))
 f29:=Tryz.func273.trans (congrArg some (by kernel_rfl))
 f46:=⟨Tryz.f389.name,by decide,Tryz.func389.trans (congrArg some (by kernel_rfl))⟩
 f47:=Tryz.func299.trans (congrArg some (by kernel_rfl))
 f48:=Tryz.func300.trans (congrArg some (by kernel_rfl))
 f49:=⟨Tryz.f390.name,by decide,Tryz.func390.trans (congrArg some (by kernel_rfl))⟩
 f50:=⟨Tryz.f391.name,by decide,Tryz.func391.trans (congrArg some (by kernel_rfl))⟩
 f57:=⟨Tryz.f392.name,by decide,Tryz.func392.trans (congrArg some (by kernel_rfl))⟩
 t0:=Tryz.underlying0
 a0:=Tryz.isAgg0
 z0:=Tryz.sizeOf0
 v0:=Tryz.zeroValue0
 t3:=Tryz.underlying3
 a3:=Tryz.isAgg3
 z3:=Tryz.sizeOf3
 v3:=Tryz.zeroValue3
 t4:=Tryz.underlying4
 a4:=Tryz.isAgg4
 z4:=Tryz.sizeOf4
 v4:=Tryz.zeroValue4
 t5:=Tryz.underlying5
 a5:=Tryz.isAgg5
 z5:=Tryz.sizeOf5
 v5:=Tryz.zeroValue5
 t9:=Tryz.underlying9
 a9:=Tryz.isAgg9
 z9:=Tryz.sizeOf9
 v9:=Tryz.zeroValue9
 t22:=Tryz.underlying26
 a22:=Tryz.isAgg26
 z22:=Tryz.sizeOf26
 v22:=Tryz.zeroValue26
 a24:=Tryz.isAgg3
 z24:=Tryz.sizeOf3
 t25:=Tryz.underlying58
 a25:=Tryz.isAgg58
 z25:=Tryz.sizeOf58
 v25:=Tryz.zeroValue58
 t39:=Tryz.underlying228
 a39:=Tryz.isAgg228
 z39:=Tryz.sizeOf228
 v39:=Tryz.zeroValue228
 t45:=Tryz.underlying310
 a45:=Tryz.isAgg310
 z45:=Tryz.sizeOf310
 v45:=Tryz.zeroValue310
 t46:=Tryz.underlying311
 a46:=Tryz.isAgg311
 z46:=Tryz.sizeOf311
 v46:=Tryz.zeroValue311
 t50:=Tryz.underlying124
 a50:=Tryz.isAgg124
 z50:=Tryz.sizeOf124
 v50:=Tryz.zeroValue124
 t53:=Tryz.underlying293
 a53:=Tryz.isAgg293
 z53:=Tryz.sizeOf293
 v53:=Tryz.zeroValue293
 t55:=Tryz.underlying98
 a55:=Tryz.isAgg98
 z55:=Tryz.sizeOf98
 v55:=Tryz.zeroValue98
 t66:=Tryz.underlying345
 a66:=Tryz.isAgg345
 z66:=Tryz.sizeOf345
 v66:=Tryz.zeroValue345
 t70:=Tryz.underlying167
 a70:=Tryz.isAgg167
 z70:=Tryz.sizeOf167
 v70:=Tryz.zeroValue167
 t76:=Tryz.underlying381
 a76:=Tryz.isAgg381
 z76:=Tryz.sizeOf381
 v76:=Tryz.zeroValue381
 t77:=Tryz.underlying219
 a77:=Tryz.isAgg219
 z77:=Tryz.sizeOf219
 v77:=Tryz.zeroValue219 }
end Go.Proofs
namespace Go.Proofs.YtcocagkbfpgmiaaGreatDoor.Pv
open Go Go.Proofs Go.Shelf Go.RowKit Go.Lib
theorem Wc{P:Program}(w:World)(dT sT ty elem:TypeId)(g o dLen dCap:Nat)(a:Addr)(sLen sCap k n:Nat)(cur:Array Value)(t:TypeId)(cs:List Value)
  (hu:P.underlying dT=some (.slice elem)) (hs:(P.info? elem).map (·.size)=some k) (hn:n=Nat.min sLen dLen)
  (hg:w.heap[g]?=some (.cells cur t (0,0))) (hl:cs.length=n*k)
  (hsrc:∀j v,cs[j]?=some v->w.cell? (a.add j)=some v) (hfit:o+cs.length<=cur.size) (h1:∀v∈cs,v.oneCell'=true) :
  (Builtin.copy_ #[dT,sT] ty #[.slice (some ⟨g,o,none⟩) dLen dCap,.slice (some a) sLen sCap]).run P w =
   .ok (goInt n) (w.setRow g (cur.toList.take o++cs++cur.toList.drop (o+cs.length)).toArray):=by
 have hld:=run_loadCells_list (P:=P) w a cs hsrc;have hst:=run_storeCells_at P g o t cs 0 cur w hg (by simpa using hfit) h1;rw[hl]at hld;cases hq:P.info? elem with
 | none=>simp[hq]at hs
 | some i =>
  have hi:i.size=k:=by simpa[hq] using hs
  simp[Builtin.copy_,run_underlying hu,Builtin.lenOf,Builtin.firstCells,sizeOf,typeInfo,hq,hi,<-hn,hld,hst]
theorem Zic{P:Program}(w:World)(tS tR e:TypeId)(ht:P.underlying tS=some (.slice e))(size:Nat)(hz:∀w,(Go.sizeOf e).run P w=.ok size w)
  (a b:Addr) (la ca lb cb:Nat) (hne:a.block≠b.block) (tA tB:TypeId) (kA kB:Nat)
  (hsa:w.shape? a.block=some (tA,kA+1)) (hsb:w.shape? b.block=some (tB,kB+1))
  (hfb:w.frozen? b=false) (hfe:w.frozen? { block:=b.block,off:=kB+1 }=false) :
  (Extern.SlicesOverlaps.overlaps #[tS,tS] #[tR] #[.slice (some a) la ca,.slice (some b) lb cb]).run P w=.ok (.bool false) w:=by
 have hn1:(a.block != b.block)=true:=by simpa using hne
 have hn2:(a.block == b.block)=false:=by simpa using hne
 conv=>lhs;arg 2;whnf
 rw[Sem.run];simp only[Sem.bind,List.getElem_toArray,List.getElem_cons_zero,ht];change Sem.run P (Bind.bind (pure (TypeDesc.slice e):Sem TypeDesc) _) w=_
 by_cases h0:la=0\/lb=0\/size=0
 ·simp[hz,h0]
 ·cases hf1:w.frozen? a<;>cases hf2:w.frozen? { block:=a.block,off:=kA+1 } <;>
   simp[hz,h0,hn1,hn2,frozen,noView,viewAt,mayBeOne,stringish,shape,Sem.run,hsa,hsb,hf1,hf2,hfb,hfe]
theorem Zid(b n c i vb vo vc:Nat)(cs vs:List Value)(w:World)(i0:TypeInfo)(z:Value)(hi0:prog.info? 100=some i0)(hz0:i0.zero=some z)(hzs:i0.size=2)(hzb:i0.bytes=16)(hzc:z.cells.size=2)
  (hi:i<n) (hnc:n<=c) (hroom:c<n+1) (hn:n<=1048576) (hcl:cs.length=n*2) (hvl:vs.length=2)
  (hcs:∀j v,cs[j]?=some v->w.cell? ⟨b,j,none⟩=some v) (hvs:∀j v,vs[j]?=some v->w.cell? ⟨vb,vo+j,none⟩=some v) (h1c:∀v∈cs,v.oneCell'=true) (h1v:∀v∈vs,v.oneCell'=true)
  (G:Nat) (hG:G=grownCap w (n+1) c 100) (ROW:Array Value) (hROW:ROW=(cs.take (i*2)).toArray++Builtin.zeroCells z.cells (n+1-i)++Builtin.zeroCells z.cells (G-(n+1))) (R1 R2:Array Value)
  (hR1:R1=(ROW.toList.take (i*2)++vs++ROW.toList.drop (i*2+2)).toArray) (hR2:R2=(R1.toList.take ((i+1)*2)++cs.drop (i*2)++R1.toList.drop ((i+1)*2+(cs.drop (i*2)).length)).toArray) :
  Calls prog 338 #[.slice (some ⟨b,0,none⟩) n c,.int .i64 i,.slice (some ⟨vb,vo,none⟩) 1 vc] w λe w' =>
   e=.returned (.slice (some ⟨w.heap.size,0,none⟩) (n+1) G)/\w'=((w.drew.alloc (.cells ROW 100)).setRow w.heap.size R1).drew.setRow w.heap.size R2:=by
 have hz1:¬((i:Int)=(n:Int)):=DB
 have hz3:(c:Int)<(n:Int)+1:=DB
 have hsz:(prog.info? 100).map (·.size)=some 2:=by rw[hi0];simp[hzs]
 have hkk:(n:Int)+1-(i:Int)=((n+1-i:Nat):Int):=DB
 have hik:i+(n+1-i)=n+1:=DB
 have hold:(Builtin.firstCells i0.size i (.slice (some ⟨b,0,none⟩) i c)).run prog w.drew=.ok (cs.take (i*2)).toArray w.drew:=by
  rw[hzs];exact run_firstCells_some w.drew 2 i ⟨b,0,none⟩ i c (cs.take (i*2)) (by rw[As];omega) (λj v hj=>by
   rw[BA]at hj;split at hj
   ·have:=hcs j v hj;rw[Addr.add_lit,AQ];exact this
   ·cases hj)
 have hrz:∀ty,(Builtin.append_ #[40,3] ty #[.slice (some ⟨b,0,none⟩) i c,.int .i64 ((n:Int)+1-(i:Int))]).run prog w =
   .ok (.slice (some ⟨w.heap.size,0,none⟩) (n+1) G) (w.drew.alloc (.cells ROW 100)):=λty=>by
  have h:=Lib.run_append_grow_zeros w 40 3 ty 100 i0 _ .i64 .i64 underlying40 underlying3 hi0 hz0 (some ⟨b,0,none⟩) i c (cs.take (i*2)) hold (n+1-i) DB DB DB DB (by rw[hzb];omega) (by rw[hzb,hik];exact growslice_fits hroom (by omega));rw[hik]at h;rw[hkk,hROW,hG];exact h
 have hRl:ROW.size=G*2:=by
  rw[hROW];have:=grownCap_ge w (n+1) c 100;simp[Builtin.zeroCells,hzc];omega
 have hGn:n+1<=G:=by rw[hG];exact grownCap_ge w _ _ _
 have hG63:G<=9223372036854775807:=by
  have:=grownCap_le_maxLen w (n+1) c 100 (by unfold maxLen;omega);rw[<-hG]at this;unfold maxLen at this;omega
 have hbw:b<w.heap.size:=block_lt_of_cell (hcs 0 _ (Ad DB));have hvw:vb<w.heap.size:=block_lt_of_cell (hvs 0 _ (Ad DB));obtain⟨W1,hW1⟩:∃W1,W1=w.drew.alloc (.cells ROW 100):=⟨_,rfl⟩;have hWh:W1.heap[w.heap.size]?=some (.cells ROW 100 (0,0)):=by rw[hW1];show (w.heap.push _)[w.heap.size]?=_;exact Array.getElem?_push_size
 have hOb:∀b',b'<w.heap.size->∀j v,w.cell? ⟨b',j,none⟩=some v->W1.cell? ⟨b',j,none⟩=some v:=λb' hb' j v h=>by rw[hW1,World.cell?_alloc_past (w:=w.drew) _ b' j hb'];exact h
 have hceq:∀W:World,W.heap=W1.heap->∀x,W.cell? x=W1.cell? x:=λW hW x=>by unfold World.cell?;rw[hW]
 have hA:∀(W:World),W.heap=W1.heap->∀ty dc,(Builtin.copy_ #[40,40] ty #[.slice (some ⟨w.heap.size,i*2,none⟩) (n+1-i) dc,.slice (some ⟨vb,vo,none⟩) 1 vc]).run prog W=.ok (goInt 1) (W.setRow w.heap.size R1):=λW hW ty dc=>by
  have:=Wc (P:=prog) W 40 40 ty 100 w.heap.size (i*2) (n+1-i) dc ⟨vb,vo,none⟩ 1 vc 2 1 ROW 100 vs underlying40 hsz (by simp only[Dv];split<;>omega) (by rw[hW];exact hWh) DB
   (λj v hj=>by rw[Addr.add_lit,hceq W hW];exact hOb vb hvw _ v (hvs j v hj)) DB h1v
  rw[hvl,<-hR1]at this;exact this
 obtain⟨W2,hW2⟩:∃W2,W2=W1.setRow w.heap.size R1:=⟨_,rfl⟩;have hW2h:W2.heap[w.heap.size]?=some (.cells R1 100 (0,0)):=by rw[hW2];exact setRow_heap _ _ _ _ _ _ hWh
 have hR1l:R1.size=G*2:=by rw[hR1];simp;omega
 have hOb2:∀j v,cs[j]?=some v->W2.cell? ⟨b,j,none⟩=some v:=λj v h=>by
  have h1:=hOb b hbw j v (hcs j v h);rw[hW2];have h2:(W1.setRow w.heap.size R1).heap[b]?=W1.heap[b]?:=by unfold World.setRow;simp only[Br];rw[if_neg DB]
  unfold World.cell? at h1 ⊢;rw[h2];exact h1
 have hceq2:∀W:World,W.heap=W2.heap->∀x,W.cell? x=W2.cell? x:=λW hW x=>by unfold World.cell?;rw[hW]
 have hdl:(cs.drop (i*2)).length=(n-i)*2:=by rw[Bj,hcl];omega
 have hB:∀(W:World),W.heap=W2.heap->∀ty dc sc,(Builtin.copy_ #[40,40] ty #[.slice (some ⟨w.heap.size,(i+1)*2,none⟩) (n+1-(i+1)) dc,.slice (some ⟨b,i*2,none⟩) (n-i) sc]).run prog W=.ok (goInt (n-i:Nat)) (W.setRow w.heap.size R2):=λW hW ty dc sc=>by
  have:=Wc (P:=prog) W 40 40 ty 100 w.heap.size ((i+1)*2) (n+1-(i+1)) dc ⟨b,i*2,none⟩ (n-i) sc 2 (n-i) R1 100 (cs.drop (i*2)) underlying40 hsz (by simp only[Dv];split<;>omega) (by rw[hW];exact hW2h) hdl
   (λj v hj=>by rw[Addr.add_lit,hceq2 W hW];exact hOb2 _ v (by rwa[AK]at hj)) DB (λv hv=>h1c v (Cb hv))
  rw[<-hR2]at this;exact this
 have hW1e:W1.heap=(w.drew.alloc (.cells ROW 100)).heap:=by rw[hW1]
 clear hROW hR1 hR2 hold hcs hvs hOb hOb2 hz0 hzc hW1e hkk hik hG hcl hvl hsz hRl hR1l hdl h1c h1v hzs hzb hi0 hbw hvw;have hci:¬(c=i):=DB
 have hGi:¬(G=i):=DB
 have hGim:¬(G=i+1):=DB
 have hw1:IntKind.i64.wrap ((i:Int)+1)=(i:Int)+1:=by rw[Ay];omega
 have hb1:(0:Int)<=(i:Int)+1:=DB
 have hin:i<=n:=DB
 have htn:((i:Int)+1).toNat=i+1:=DB
 have hb3:(i:Int)<=(n:Int):=DB
 rw[<-hW1]at hrz;have mixed:prog.follows .mixedOrders=true:=DE
 go_enter func338,ntmps338
 go_wp2_with (first
  | (at_builtin;refine Lib.wpList_append_run _ rfl _ _ _ _ rfl _ _ rfl rfl _ _ (hrz _) ?_)
  | (at_builtin;refine wpList_copy_runI _ rfl _ _ 40 40 rfl _ _ rfl rfl (hA _ rfl _ _) ?_))
 go_region_law_o (refine step_copy_runI rfl _ _ 40 40 rfl (.slice (some ⟨w.heap.size,(i+1)*2,none⟩) (n+1-(i+1)) (G-(i+1))) (.slice (some ⟨b,i*2,none⟩) (n-i) (c-i)) (by simp[Act.eval,Act.put]) (by simp[Act.eval,Act.put]) (hB _ (by rw[hW2,hW1];rfl) 3 (G-(i+1)) (c-i)) ?_)
 go_wp2
 go_ret
 exact⟨rfl,rfl⟩
theorem Zie(b n c i vb vo vc:Nat)(cs vs:List Value)(w:World)(hsz:(prog.info? 100).map (·.size)=some 2)(cur:Array Value)(hcur:w.heap[b]?=some (.cells cur 100 (0,0)))(hcc:cur.size=c*2)
  (hi:i<n) (hroom:n+1<=c) (hc63:c<=9223372036854775807) (hn:n<=1048576) (hcl:cs.length=n*2) (hvl:vs.length=2) (hvb:vb≠b)
  (hcs:∀j v,cs[j]?=some v->w.cell? ⟨b,j,none⟩=some v) (hvs:∀j v,vs[j]?=some v->w.cell? ⟨vb,vo+j,none⟩=some v) (h1c:∀v∈cs,v.oneCell'=true) (h1v:∀v∈vs,v.oneCell'=true)
  (tA:TypeId) (kA:Nat) (hsa:w.shape? vb=some (tA,kA+1)) (R1 R2:Array Value)
  (hR1:R1=(cur.toList.take ((i+1)*2)++cs.drop (i*2)++cur.toList.drop ((i+1)*2+(cs.drop (i*2)).length)).toArray) (hR2:R2=(R1.toList.take (i*2)++vs++R1.toList.drop (i*2+2)).toArray) :
  Calls prog 338 #[.slice (some ⟨b,0,none⟩) n c,.int .i64 i,.slice (some ⟨vb,vo,none⟩) 1 vc] w λe w' =>
   e=.returned (.slice (some ⟨b,0,none⟩) (n+1) c)/\w'=(w.drew.setRow b R1).setRow b R2:=by
 have hz1:¬((i:Int)=(n:Int)):=DB
 have hz3:¬((c:Int)<(n:Int)+1):=DB
 have hdl:(cs.drop (i*2)).length=(n-i)*2:=by rw[Bj,hcl];omega
 have hsb:w.shape? b=some (100,(c*2-1)+1):=by unfold World.shape?;rw[hcur];simp[hcc];omega
 have hfb:∀j,w.frozen? ⟨b,j,none⟩=false:=λj=>by simp[World.frozen?,hcur]
 have hov:∀lb cb,(callFunc 355 #[.slice (some ⟨vb,vo,none⟩) 1 vc,.slice (some ⟨b,(i+1)*2,none⟩) lb cb]).run prog w=.ok (.value (.bool false)) w:=λlb cb=>by
  rw[run_callFunc_extern func355 DE DE DE (e:=Extern.SlicesOverlaps.overlaps #[40,40] #[4]) DE,
   Zic w 40 4 100 underlying40 2 sizeOf100 ⟨vb,vo,none⟩ ⟨b,(i+1)*2,none⟩ 1 vc lb cb hvb tA 100 kA (c*2-1) hsa hsb (hfb _) (hfb _)]
  rfl
 have hceq:∀W:World,W.heap=w.heap->∀x,W.cell? x=w.cell? x:=λW hW x=>by unfold World.cell?;rw[hW]
 have hA:∀(W:World),W.heap=w.heap->∀ty dc sc,(Builtin.copy_ #[40,40] ty #[.slice (some ⟨b,(i+1)*2,none⟩) (n+1-(i+1)) dc,.slice (some ⟨b,i*2,none⟩) (n+1-i) sc]).run prog W=.ok (goInt (n-i:Nat)) (W.setRow b R1):=λW hW ty dc sc=>by
  have:=Wc (P:=prog) W 40 40 ty 100 b ((i+1)*2) (n+1-(i+1)) dc ⟨b,i*2,none⟩ (n+1-i) sc 2 (n-i) cur 100 (cs.drop (i*2)) underlying40 hsz (by simp only[Dv];split<;>omega) (by rw[hW];exact hcur) hdl
   (λj v hj=>by rw[Addr.add_lit,hceq W hW];exact hcs _ v (by rwa[AK]at hj)) DB (λv hv=>h1c v (Cb hv))
  rw[<-hR1]at this;exact this
 obtain⟨W1,hW1⟩:∃W1,W1=w.drew.setRow b R1:=⟨_,rfl⟩;have hW1h:W1.heap[b]?=some (.cells R1 100 (0,0)):=by rw[hW1];exact setRow_heap _ _ _ _ _ _ hcur
 have hR1l:R1.size=c*2:=by rw[hR1];simp;omega
 have hOv:∀j v,vs[j]?=some v->W1.cell? ⟨vb,vo+j,none⟩=some v:=λj v h=>by
  have h1:=hvs j v h;rw[hW1];unfold World.cell? at h1 ⊢;rw[setRow_other _ _ _ _ hvb];exact h1
 have hceq1:∀W:World,W.heap=W1.heap->∀x,W.cell? x=W1.cell? x:=λW hW x=>by unfold World.cell?;rw[hW]
 have hB:∀(W:World),W.heap=W1.heap->∀ty dc,(Builtin.copy_ #[40,40] ty #[.slice (some ⟨b,i*2,none⟩) (n+1-i) dc,.slice (some ⟨vb,vo,none⟩) 1 vc]).run prog W=.ok (goInt 1) (W.setRow b R2):=λW hW ty dc=>by
  have:=Wc (P:=prog) W 40 40 ty 100 b (i*2) (n+1-i) dc ⟨vb,vo,none⟩ 1 vc 2 1 R1 100 vs underlying40 hsz (by simp only[Dv];split<;>omega) (by rw[hW];exact hW1h) DB
   (λj v hj=>by rw[Addr.add_lit,hceq1 W hW];exact hOv j v hj) DB h1v
  rw[hvl,<-hR2]at this;exact this
 have hci:¬(c=i):=DB
 have hcim:¬(c=i+1):=DB
 have hw1:IntKind.i64.wrap ((i:Int)+1)=(i:Int)+1:=by rw[Ay];omega
 have hb1:(0:Int)<=(i:Int)+1:=DB
 have hin:i<=n:=DB
 have hin1:i<=n+1:=DB
 have htn:((i:Int)+1).toNat=i+1:=DB
 have hb3:(i:Int)<=(n:Int):=DB
 have hb5:(i:Int)<=(n:Int)+1:=DB
 clear hR1 hR2 hcs hvs hOv hsz hcl hvl hdl h1c h1v hcur hcc hsa hsb hfb hR1l;have mixed:prog.follows .mixedOrders=true:=DE
 go_enter func338,ntmps338
 go_wp2_with (simp only[hov])
 go_region_law_o (refine step_copy_runI rfl _ _ 40 40 rfl (.slice (some ⟨b,(i+1)*2,none⟩) (n+1-(i+1)) (c-(i+1))) (.slice (some ⟨b,i*2,none⟩) (n+1-i) (c-i)) (by simp[Act.eval,Act.put]) (by simp[Act.eval,Act.put]) (hA _ DG 3 (c-(i+1)) (c-i)) ?_)
 go_wp2_with (at_builtin;refine wpList_copy_runI _ rfl _ _ 40 40 rfl _ _ rfl rfl (hB _ (by rw[hW1];rfl) _ _) ?_)
 go_ret
 exact⟨rfl,rfl⟩
end Go.Proofs.YtcocagkbfpgmiaaGreatDoor.Pv
namespace Go.Proofs
open Go.Shelf
def Tryz.growStop_ren:Go.Shelf.Ren:=⟨fun | 4=>370 | n=>n,fun | 22=>40 | 25=>100 | 3=>3 | 4=>4 | 9=>9 | 20=>20 | 0=>0 | 2=>3 | n=>n,fun | n=>n⟩
theorem Tryz.growStop:Go.Proofs.Lays8.n4 prog Tryz.growStop_ren:={
 mixed:=by kernel_rfl
 f4:=⟨Tryz.f370.name,by decide,Tryz.func370.trans (congrArg some (by kernel_rfl))⟩
 t0:=Tryz.underlying0
 a0:=Tryz.isAgg0
 z0:=Tryz.sizeOf0
 v0:=Tryz.zeroValue0
 t3:=Tryz.underlying3
 a3:=Tryz.isAgg3
 z3:=Tryz.sizeOf3
 v3:=Tryz.zeroValue3
 t4:=Tryz.underlying4
 a4:=Tryz.isAgg4
 z4:=Tryz.sizeOf4
 v4:=Tryz.zeroValue4
 t9:=Tryz.underlying9
 a9:=Tryz.isAgg9
 z9:=Tryz.sizeOf9
 v9:=Tryz.zeroValue9
 t20:=Tryz.underlying20
 a20:=Tryz.isAgg20
 z20:=Tryz.sizeOf20
 v20:=Tryz.zeroValue20
 t22:=Tryz.underlying40
 a22:=Tryz.isAgg40
 z22:=Tryz.sizeOf40
 v22:=Tryz.zeroValue40 }
open Go.RowKit Go.Lib in
theorem Tryz.slices_Grow_stop(i0:TypeInfo)(z:Value)(hi0:prog.info? (100)=some i0)(hz0:i0.zero=some z)(hs0:0<i0.size)(n:Nat)(w:World)(hroom:0<n)(hbig:(0+n)*i0.bytes<=140737488355328)(h63:0+n<=4611686018427387904):
  Calls prog 370 #[.slice none 0 0,.int .i64 n] w λe w' =>
   e=.returned (.slice (some ⟨w.heap.size,0,none⟩) 0 (grownCap w (0+n) 0 (100))) /\
   w'=w.drew.alloc (.cells ((#[]:Array Value)++Builtin.zeroCells z.cells (0+n-0)++Builtin.zeroCells z.cells (grownCap w (0+n) 0 (100)-(0+n))) (100)):=Any8.slices_Grow_grow Tryz.growStop i0 z hi0 hz0 hs0 none 0 0 n [] w (by omega) (by omega) hbig h63 (by simp) (λ_=>rfl) (λa h=>by cases h)
end Go.Proofs
namespace Go.Proofs.YtcocagkbfpgmiaaGreatDoor.Hp
structure Str {α:Type} (lt:α->α->Bool):Prop where
 irr:∀a,lt a a=false
 tr:∀a b c,lt a b=true->lt b c=true->lt a c=true
 tot:∀a b,lt a b=false->lt b a=false->a=b
section
variable {α:Type}
def il[DecidableEq α](lt:α->α->Bool)(a b:Int × α):Bool:=if a.2=b.2 then decide (a.1<b.1) else lt a.2 b.2
theorem Z2[DecidableEq α]{lt:α->α->Bool}(h:Str lt):Str (il lt):=by
 refine⟨λa=>by simp[il],λa b c h1 h2=>?_,λa b h1 h2=>?_⟩
 ·unfold il at *
  by_cases e1:a.2=b.2
  ·grind
  ·rw[if_neg e1]at h1
   by_cases e2:b.2=c.2
   ·simp_all
   ·rw[if_neg e2]at h2;have:=h.tr _ _ _ h1 h2
    by_cases e3:a.2=c.2
    ·rw[e3,h.irr]at this;cases this
    simp_all
 ·unfold il at *
  by_cases e1:a.2=b.2
  ·grind
  ·rw[if_neg e1]at h1;rw[if_neg (λe=>e1 e.symm)]at h2;exact absurd (h.tot _ _ h1 h2) e1
abbrev zM(α:Type):=List (Int × α)
def zG[Inhabited α](l:zM α)(i:Nat):Int × α:=l.getD i default
def swp[Inhabited α](l:zM α)(i j:Nat):zM α:=(l.set i (zG l j)).set j (zG l i)
theorem uz[Inhabited α](l:zM α)(i j:Nat):(swp l i j).length=l.length:=by simp[swp]
theorem Zif[Inhabited α](m:zM α)(a b:Nat)(x:Int × α)(ha:a<m.length):zG (m.set a x) b=if b=a then x else zG m b:=by grind[zG]
theorem J8[Inhabited α](l:zM α)(i j k:Nat)(hi:i<l.length)(hj:j<l.length):zG (swp l i j) k=if k=j then zG l i else if k=i then zG l j else zG l k:=by simp_all[swp,Zif]
theorem We[Inhabited α](l:zM α)(i j:Nat)(hi:i<l.length)(hj:j<l.length):(swp l i j).Perm l:=by
 have h:=Array.swap_perm (xs:=l.toArray) (i:=i) (j:=j) (by simpa using hi) (by simpa using hj)
 grind[Array.perm_iff_toList_perm,swp,zG]
variable [DecidableEq α] [Inhabited α]
def ye(k:Nat):Nat:=(k-1) / 2
def uT(lt:α->α->Bool)(l:zM α)(n:Nat):Prop:=∀k,0<k->k<n->il lt (zG l k) (zG l (ye k))=false
def ww(lt:α->α->Bool):Nat->zM α->Nat->zM α
 | 0,l,_=>l
 | f+1,l,j=>if ye j=j\/il lt (zG l j) (zG l (ye j))=false then l else ww lt f (swp l (ye j) j) (ye j)
def jw(lt:α->α->Bool)(l:zM α)(i n:Nat):Nat:=if 2*i+2<n/\il lt (zG l (2*i+2)) (zG l (2*i+1))=true then 2*i+2 else 2*i+1
def qe(lt:α->α->Bool):Nat->zM α->Nat->Nat->zM α × Nat
 | 0,l,i,_=>(l,i)
 | f+1,l,i,n =>
  if n<=2*i+1 then (l,i)
  else if il lt (zG l (jw lt l i n)) (zG l i)=false then (l,i)
  else qe lt f (swp l i (jw lt l i n)) (jw lt l i n) n
theorem vY{k:Nat}(h:0<k):ye k<k:=by unfold ye;omega
variable {lt:α->α->Bool}
theorem J9{β:Type}[DecidableEq β]{lt:β->β->Bool}(h:Str lt){a b c:Int × β}(h1:il lt a b=false)(h2:il lt b c=false):il lt a c=false:=by
 have s:=Z2 h;cases hq:il lt a c with
 | false=>rfl
 | true =>
  cases hb:il lt c b with
  | true=>have:=s.tr _ _ _ hq hb;simp_all
  | false=>have:=s.tot _ _ hb h2;simp_all
theorem Wf{β:Type}[DecidableEq β]{lt:β->β->Bool}(h:Str lt){a b:Int × β}(h1:il lt a b=true):il lt b a=false:=by
 have s:=Z2 h;cases hq:il lt b a with
 | false=>rfl
 | true=>have:=s.tr _ _ _ h1 hq;rw[s.irr]at this;cases this
structure UpInv (lt:α->α->Bool) (l:zM α) (n j:Nat):Prop where
 rest:∀k,0<k->k<n->k≠j->il lt (zG l k) (zG l (ye k))=false
 kids:∀k,0<k->k<n->ye k=j->0<j->il lt (zG l k) (zG l (ye j))=false
theorem Zc2(h:Str lt):∀(f:Nat) (l:zM α) (n j:Nat),n<=l.length->j<n->j<f->UpInv lt l n j->uT lt (ww lt f l j) n/\(ww lt f l j).Perm l/\(ww lt f l j).length=l.length/\∀k,n<=k->zG (ww lt f l j) k=zG l k:=by
 intro f
 induction f with
 | zero=>omega
 | succ f ih =>
  intro l n j hn hj hf inv;unfold ww;split
  ·rename_i hc;refine⟨λk hk hkn=>?_,.refl _,rfl,λ_ _=>rfl⟩
   by_cases hkj:k=j
   ·subst hkj;rcases hc with hc | hc
    ·have:=vY hk;omega
    omega
   ·exact inv.rest k hk hkn hkj
  ·rename_i hc;have hc1:ye j≠j:=λe=>hc (.inl e)
   have hc2:il lt (zG l j) (zG l (ye j))=true:=by
    cases hq:il lt (zG l j) (zG l (ye j)) with
    | true=>rfl
    | false=>simp_all
   have hj0:0<j:=by
    rcases BT j with e | e
    ·subst e;exact absurd rfl hc1
    ·exact e
   have hp:=vY hj0;have hpl:ye j<l.length:=DB
   have hjl:j<l.length:=DB
   have at':=λk=>J8 l (ye j) j k hpl hjl
   have:=ih (swp l (ye j) j) n (ye j) (by simp_all[uz]) DB DB ⟨λk hk hkn hkp=>?_,λk hk hkn hkp hp0=>?_⟩
   ·obtain⟨q1,q2,q3,q4⟩:=this;refine⟨q1,q2.trans (We l _ _ hpl hjl),q3.trans (uz _ _ _),λk hk=>?_⟩;rw[q4 k hk,at' k,if_neg DB,if_neg DB]
   ·rw[at' k,at' (ye k)]
    by_cases k1:k=j
    ·simp_all[Wf]
    ·rw[if_neg k1,if_neg hkp]
     by_cases k2:ye k=j
     ·rw[if_pos k2];exact inv.kids k hk hkn k2 hj0
     ·rw[if_neg k2]
      by_cases k3:ye k=ye j
      ·rw[if_pos k3];have:=inv.rest k hk hkn k1
       grind[J9,Wf]
      ·rw[if_neg k3];exact inv.rest k hk hkn k1
   ·have hpp:=vY hp0;rw[at' k,at' (ye (ye j)),if_neg (show ye (ye j)≠j by omega),if_neg (show ye (ye j)≠ye j by omega)];have hpar:=inv.rest (ye j) hp0 DB DB
    by_cases k1:k=j
    ·simp_all
    ·rw[if_neg k1,if_neg (by have:=vY hk;omega)];have:=inv.rest k hk hkn k1
     grind[J9]
structure DownInv (lt:α->α->Bool) (l:zM α) (n i:Nat):Prop where
 rest:∀k,0<k->k<n->ye k≠i->k≠i->il lt (zG l k) (zG l (ye k))=false
 kids:∀k,0<k->k<n->ye k=i->0<i->il lt (zG l k) (zG l (ye i))=false
theorem Zc3(h:Str lt)(l:zM α)(i n:Nat)(hi:2*i+1<n):ye (jw lt l i n)=i/\jw lt l i n<n/\0<jw lt l i n/\i<jw lt l i n/\∀k,0<k->k<n->ye k=i->il lt (zG l k) (zG l (jw lt l i n))=false:=by
 have s:=Z2 h;unfold jw;split
 ·rename_i hc;refine⟨by unfold ye;omega,hc.1,by omega,by omega,λk hk hkn hp=>?_⟩;have:k=2*i+1\/k=2*i+2:=by unfold ye at hp;omega
  rcases this with rfl | rfl
  ·exact Wf h hc.2
  ·exact s.irr _
 grind[ye,il]
theorem Zc4(h:Str lt):∀(f:Nat) (l:zM α) (n i:Nat),n<=l.length->i<n->n<=f+i->DownInv lt l n i ->
  (qe lt f l i n).1.Perm l/\(qe lt f l i n).1.length=l.length/\(∀k,n<=k->zG (qe lt f l i n).1 k=zG l k)/\i<=(qe lt f l i n).2/\(qe lt f l i n).2<n /\
  (i<(qe lt f l i n).2->uT lt (qe lt f l i n).1 n) /\
  ((qe lt f l i n).2=i->(qe lt f l i n).1=l/\∀k,0<k->k<n->k≠i->il lt (zG l k) (zG l (ye k))=false):=by
 intro f
 induction f with
 | zero=>omega
 | succ f ih =>
  intro l n i hn hi hf inv;have stay:(∀k,0<k->k<n->ye k=i->il lt (zG l k) (zG l i)=false)->∀k,0<k->k<n->k≠i->il lt (zG l k) (zG l (ye k))=false:=by
   intro hk k k0 kn ki
   by_cases hp:ye k=i
   ·simp_all
   ·exact inv.rest k k0 kn hp ki
  unfold qe;split
  ·rename_i hle;refine⟨.refl _,rfl,λ_ _=>rfl,Af _,hi,λhlt=>by omega,λ_=>⟨rfl,stay λk k0 kn hp=>?_⟩⟩;unfold ye at hp;omega
  ·rename_i hle;obtain⟨c1,c2,c3,c4,c5⟩:=Zc3 h l i n DB;split
   ·rename_i hc;exact⟨.refl _,rfl,λ_ _=>rfl,Af _,hi,λhlt=>by omega,λ_=>⟨rfl,stay λk k0 kn hp=>J9 h (c5 k k0 kn hp) hc⟩⟩
   ·rename_i hc;have hc':il lt (zG l (jw lt l i n)) (zG l i)=true:=by
     cases hq:il lt (zG l (jw lt l i n)) (zG l i) with
     | true=>rfl
     | false=>simp_all
    generalize hj:jw lt l i n=j at *;have hil:i<l.length:=DB
    have hjl:j<l.length:=DB
    have at':=λk=>J8 l i j k hil hjl
    have inv':DownInv lt (swp l i j) n j:=by
     refine⟨λk k0 kn kp kj=>?_,λk k0 kn kp j0=>?_⟩
     ·rw[at' k,at' (ye k),if_neg kj,if_neg kp]
      by_cases k1:k=i
      ·subst k1;rw[if_pos rfl];have hpk:=vY k0;rw[if_neg DB];exact inv.kids j c3 c2 c1 k0
      ·rw[if_neg k1]
       by_cases k2:ye k=i
       ·rw[if_pos k2];exact c5 k k0 kn k2
       ·rw[if_neg k2];exact inv.rest k k0 kn k2 k1
     ·rw[at' k,at' (ye j),c1,if_neg (show i≠j by omega),if_pos rfl];have hpk:=vY k0;rw[if_neg DB,if_neg DB];have:=inv.rest k k0 kn DB DB;rw[kp]at this;omega
    obtain⟨q1,q2,q3,q4,q5,q6,q7⟩:=ih (swp l i j) n j (by simp_all[uz]) c2 DB inv';refine⟨q1.trans (We l _ _ hil hjl),q2.trans (uz _ _ _),λk hk=>by rw[q3 k hk,at' k,if_neg DB,if_neg DB],by omega,q5,λhlt=>?_,λhe=>by omega⟩
    by_cases hjq:j<(qe lt f (swp l i j) j n).2
    ·exact q6 hjq
    ·obtain⟨r1,r2⟩:=q7 DB;rw[r1];intro k k0 kn
     by_cases kj:k=j
     ·subst kj;rw[at' k,at' (ye k),c1,if_pos rfl,if_neg (show i≠k by omega),if_pos rfl];exact Wf h hc'
     ·exact r2 k k0 kn kj
theorem Zig:∀(f f':Nat) (l:zM α) (j:Nat),j<f->j<f'->ww lt f l j=ww lt f' l j:=by
 intro f
 induction f with
 | zero=>omega
 | succ f ih =>
  intro f' l j h1 h2;cases f'<;>grind[ww,ye]
theorem Zih(l:zM α)(i n:Nat):i<jw lt l i n:=by grind[jw]
theorem Zii:∀(f f':Nat) (l:zM α) (i n:Nat),n<=f+i->n<=f'+i->qe lt f l i n=qe lt f' l i n:=by
 intro f
 induction f with
 | zero =>
  intro f' l i n h1 h2;cases f'<;>grind[qe]
 | succ f ih =>
  intro f' l i n h1 h2;cases f'<;>grind[qe,Zih]
end
end Go.Proofs.YtcocagkbfpgmiaaGreatDoor.Hp
namespace Go.Proofs.YtcocagkbfpgmiaaGreatDoor.Pv
open Go
inductive PV where
 | junk
 | sc (v:Value)
 | agg (cs:List PV)
 | tup (vs:List PV)
 | lst (n:Nat) (cs:List PV)
 | ip (cs:List PV)
 | ptr (o ver off:Nat)
 | sl (o ver sz off n:Nat)
 | fn (f:Fn) (first cap:List PV)
 | ifc (t:TypeId) (v:PV)
 | mp (o ver:Nat)
 | nl (low sz n:Nat) (cs:List PV)
inductive Ob where
 | dead
 | cells (ver:Nat) (e:TypeId) (cs:List PV)
 | map (ver:Nat) (es:List (Value × PV))
abbrev Store:=Nat->Ob
def Ob.ver:Ob->Option Nat
 | .dead=>none
 | .cells v _ _=>some v
 | .map v _=>some v
def Store.set(S:Store)(o:Nat)(x:Ob):Store:=λi=>if i=o then x else S i
theorem q11(S:Store)(o:Nat)(x:Ob):S.set o x o=x:=by simp[Store.set]
theorem q10(S:Store)(o i:Nat)(x:Ob)(h:i≠o):S.set o x i=S i:=by simp_all[Store.set]
theorem Store.set_set(S:Store)(o:Nat)(x y:Ob):(S.set o x).set o y=S.set o y:=by grind[Store.set]
theorem Store.set_comm(S:Store)(o i:Nat)(x y:Ob)(h:i≠o):(S.set o x).set i y=(S.set i y).set o x:=by grind[Store.set]
structure Ctx where
 loc:Nat->Option (Nat × Nat)
 next:Nat
 clock:Nat
def Ctx.M(C:Ctx)(S:Store)(b:Nat):Prop:=∃o k,S o≠.dead/\C.loc o=some (b,k)
def jT:Nat:=9223372036854775807
inductive Rel (C:Ctx) (S:Store) (w:World):PV->Value->Prop where
 | junk (v:Value):Rel C S w .junk v
 | sc (v:Value):Rel C S w (.sc v) v
 | agg {cs:List PV} {vs:Array Value} (hl:cs.length=vs.size) (h1:∀(i:Nat) (v:Value),vs[i]?=some v->v.oneCell'=true) (h:∀(i:Nat) (c:PV) (v:Value),cs[i]?=some c->vs[i]?=some v->Rel C S w c v):Rel C S w (.agg cs) (.agg vs)
 | tup {cs:List PV} {vs:Array Value} (hl:cs.length=vs.size) (h:∀(i:Nat) (c:PV) (v:Value),cs[i]?=some c->vs[i]?=some v->Rel C S w c v):Rel C S w (.tup cs) (.tuple vs)
 | lst0 {cap:Nat} {a:Option Addr}:Rel C S w (.lst 0 []) (.slice a 0 cap)
 | lst1 {n cap b o:Nat} {cs:List PV} {c:Array Value} {e:TypeId} {fz:Nat × Nat} (hn:n<=cap) (hm:n<=jT) (hb:w.heap[b]?=some (.cells c e fz)) (hM:¬C.M S b)
   (hs:cs≠[]->o+cs.length<=c.size) (h1:∀(i:Nat) (v:Value),i<cs.length->c[o+i]?=some v->v.oneCell'=true) (h:∀(i:Nat) (p:PV) (v:Value),cs[i]?=some p->c[o+i]?=some v->Rel C S w p v):Rel C S w (.lst n cs) (.slice (some ⟨b,o,none⟩) n cap)
 | ip {b o:Nat} {cs:List PV} {c:Array Value} {e:TypeId} {fz:Nat × Nat} (hb:w.heap[b]?=some (.cells c e fz)) (hM:¬C.M S b)
   (hs:cs≠[]->o+cs.length<=c.size) (h1:∀(i:Nat) (v:Value),i<cs.length->c[o+i]?=some v->v.oneCell'=true) (h:∀(i:Nat) (p:PV) (v:Value),cs[i]?=some p->c[o+i]?=some v->Rel C S w p v):Rel C S w (.ip cs) (.pointer (some ⟨b,o,none⟩))
 | ptr {o ver off:Nat} {v:Value} (h1:∃a,v=.pointer (some a)) (ho:o<C.next/\ver<C.clock) (h:∀v0,(S o).ver=some v0->ver<=v0/\(ver=v0->∃b k,C.loc o=some (b,k)/\v=.pointer (some ⟨b,off,none⟩))):Rel C S w (.ptr o ver off) v
 | sl {o ver sz off n:Nat} {v:Value} (h1:∃a cap,v=.slice a n cap/\n<=cap/\n<=jT/\cap<=maxLen/\(n≠0->∃b f,a=some ⟨b,f,none⟩)) (ho:o<C.next/\ver<C.clock) (h:∀v0,(S o).ver=some v0->ver<=v0/\(ver=v0 ->
   (C.loc o=none/\n=0/\off=0/\v=.slice none 0 0)\/∃b k a cap,C.loc o=some (b,k)/\v=.slice a n cap/\(off=0->a=some ⟨b,0,none⟩/\cap*sz=k)/\(n≠0->a=some ⟨b,off,none⟩))) :
   Rel C S w (.sl o ver sz off n) v
 | nl0 {low sz cap:Nat} {a:Option Addr}:Rel C S w (.nl low sz 0 []) (.slice a 0 cap)
 | nl {low sz n cap b:Nat} {cs:List PV} {c:Array Value} {e:TypeId} (hn:0<n/\n<=cap/\n<=jT/\cap<=maxLen) (hb:w.heap[b]?=some (.cells c e (0,0))) (hM:¬C.M S b) (hl:low<=b/\cs.length=n*sz/\cap*sz=c.size)
   (h1:∀(i:Nat) (v:Value),i<cs.length->c[i]?=some v->v.oneCell'=true) (h:∀(i:Nat) (p:PV) (v:Value),cs[i]?=some p->c[i]?=some v->Rel C S w p v):Rel C S w (.nl low sz n cs) (.slice (some ⟨b,0,none⟩) n cap)
 | fn {f:Fn} {fs cs:List PV} {fv cv:Array Value} (hf:fs.length=fv.size) (hc:cs.length=cv.size) (h:∀(i:Nat) (c:PV) (v:Value),fs[i]?=some c->fv[i]?=some v->Rel C S w c v)
   (h':∀(i:Nat) (c:PV) (v:Value),cs[i]?=some c->cv[i]?=some v->Rel C S w c v):Rel C S w (.fn f fs cs) (.func f fv cv)
 | ifc {t:TypeId} {p:PV} {v:Value} (h:Rel C S w p v):Rel C S w (.ifc t p) (.iface t v)
 | mp {o ver:Nat} {v:Value} (h1:∃b,v=.map (some b)) (ho:o<C.next/\ver<C.clock) (h:∀v0,(S o).ver=some v0->ver<=v0/\(ver=v0->∃b k,C.loc o=some (b,k)/\v=.map (some b))):Rel C S w (.mp o ver) v
structure Sim (C:Ctx) (S:Store) (w:World):Prop where
 lt:∀o,S o≠.dead->o<C.next
 clk:∀o v,(S o).ver=some v->v<C.clock
 dist:∀o o' b k k',S o≠.dead->S o'≠.dead->C.loc o=some (b,k)->C.loc o'=some (b,k')->o=o'
 cells:∀o ver e cs,S o=.cells ver e cs->(C.loc o=none/\cs=[])\/∃(b k:Nat) (c:Array Value),C.loc o=some (b,k)/\w.heap[b]?=some (.cells c e (0,0))/\c.size=k/\cs.length<=k /\
  (∀(i:Nat) (v:Value),i<cs.length->c[i]?=some v->v.oneCell'=true)/\∀(i:Nat) (p:PV) (v:Value),cs[i]?=some p->c[i]?=some v->Rel C S w p v
 maps:∀o ver es,S o=.map ver es->∃(b k:Nat) (ms:Array MapEntry) (cl:Nat),C.loc o=some (b,k)/\w.heap[b]?=some (.map ms cl)/\es.length=ms.size /\
  (∀(i:Nat) (e:Value × PV) (m:MapEntry),es[i]?=some e->ms[i]?=some m->m.key=e.1/\Rel C S w e.2 m.val)
structure Step (C:Ctx) (S:Store) (w:World) (C':Ctx) (S':Store) (w':World):Prop where
 os:w'.os=w.os
 tape:w'.tape=w.tape/\w.drawn<=w'.drawn
 output:w'.output=w.output
 size:w.heap.size<=w'.heap.size
 next:C.next<=C'.next
 clock:C.clock<=C'.clock
 blocks:∀b,b<w.heap.size->¬C.M S b->w'.heap[b]?=w.heap[b]?/\¬C'.M S' b
 vers:∀o v1,(S' o).ver=some v1->(C.next<=o\/C.clock<=v1)\/∃v0,(S o).ver=some v0/\v0<=v1/\(v0=v1->C'.loc o=C.loc o)
theorem qn{w:World}{b:Nat}{o:Obj}(h:w.heap[b]?=some o):b<w.heap.size:=(Bf.1 h).1
theorem Step.refl(C:Ctx)(S:Store)(w:World):Step C S w C S w :=
 ⟨rfl,⟨rfl,Af _⟩,rfl,Af _,Af _,Af _,λ_ _ h=>⟨rfl,h⟩,λ_ v1 h=>.inr ⟨v1,h,Af _,λ_=>rfl⟩⟩
theorem Step.trans{C C' C'':Ctx}{S S' S'':Store}{w w' w'':World}(h:Step C S w C' S' w')(k:Step C' S' w' C'' S'' w''):Step C S w C'' S'' w'' :=
 ⟨k.os.trans h.os,⟨k.tape.1.trans h.tape.1,AB h.tape.2 k.tape.2⟩,k.output.trans h.output,AB h.size k.size,AB h.next k.next,AB h.clock k.clock,
  λb hb hM=>by
   obtain⟨h1,h2⟩:=h.blocks b hb hM;obtain⟨k1,k2⟩:=k.blocks b (Bq hb h.size) h2
   simp_all,
  λo v1 hv=>by
   have hn:=h.next;have hk:=h.clock;rcases k.vers o v1 hv with q | ⟨v0,a,b,c⟩
   ·omega
   ·rcases h.vers o v0 a with q | ⟨u,a',b',c'⟩<;>grind⟩
theorem Rel.mono{C C':Ctx}{S S':Store}{w w':World}(st:Step C S w C' S' w'){p:PV}{v:Value}(h:Rel C S w p v):Rel C' S' w' p v:=by
 induction h with
 | junk v=>exact .junk v
 | sc v=>exact .sc v
 | agg hl h1 _ ih=>exact .agg hl h1 ih
 | tup hl _ ih=>exact .tup hl ih
 | lst0=>exact .lst0
 | lst1 hn hm hb hM hs h1 _ ih =>
  obtain⟨k1,k2⟩:=st.blocks _ (qn hb) hM;exact .lst1 hn hm (k1.trans hb) k2 hs h1 ih
 | ip hb hM hs h1 _ ih =>
  obtain⟨k1,k2⟩:=st.blocks _ (qn hb) hM;exact .ip (k1.trans hb) k2 hs h1 ih
 | nl0=>exact .nl0
 | nl hn hb hM hl h1 _ ih =>
  obtain⟨k1,k2⟩:=st.blocks _ (qn hb) hM;exact .nl hn (k1.trans hb) k2 hl h1 ih
 | ptr h1 ho h =>
  refine .ptr h1 ⟨Bq ho.1 st.next,Bq ho.2 st.clock⟩ λv1 hv=>?_
  rcases st.vers _ v1 hv with q | ⟨v0,a,b,c⟩<;>grind
 | sl h1 ho h =>
  refine .sl h1 ⟨Bq ho.1 st.next,Bq ho.2 st.clock⟩ λv1 hv=>?_
  rcases st.vers _ v1 hv with q | ⟨v0,a,b,c⟩<;>grind
 | fn hf hc _ _ ih ih'=>exact .fn hf hc ih ih'
 | ifc _ ih=>exact .ifc ih
 | mp h1 ho h =>
  refine .mp h1 ⟨Bq ho.1 st.next,Bq ho.2 st.clock⟩ λv1 hv=>?_
  rcases st.vers _ v1 hv with q | ⟨v0,a,b,c⟩<;>grind
open Go
theorem Sim.M_lt{C:Ctx}{S:Store}{w:World}(h:Sim C S w){b:Nat}(hM:C.M S b):b<w.heap.size:=by
 obtain⟨o,k,ho,hl⟩:=hM;cases hs:S o with
 | dead=>simp_all
 | cells ver e cs =>
  rcases h.cells o ver e cs hs with ⟨hn,_⟩ | ⟨b',k',c,hl',hb,_⟩<;>grind
 | map ver es =>
  obtain⟨b',k',ms,cl,hl',hb,_⟩:=h.maps o _ es hs
  grind
theorem Sim.still{C:Ctx}{S:Store}{w w':World}(h:Sim C S w)(ho:w'.os=w.os)(ht:w'.tape=w.tape/\w.drawn<=w'.drawn)(hu:w'.output=w.output)(hz:w.heap.size<=w'.heap.size)
  (hb:∀b,b<w.heap.size->w'.heap[b]?=w.heap[b]?):Sim C S w'/\Step C S w C S w':=by
 have st:Step C S w C S w':=⟨ho,ht,hu,hz,Af _,Af _,λb hlt hM=>⟨hb b hlt,hM⟩,λ_ v1 h=>.inr ⟨v1,h,Af _,λ_=>rfl⟩⟩;refine⟨⟨h.lt,h.clk,h.dist,?_,?_⟩,st⟩
 ·intro o ver e cs hs;rcases h.cells o ver e cs hs with hn | ⟨b,k,c,h1,h2,h3,h4,h5,h6⟩
  ·exact .inl hn
  ·exact .inr ⟨b,k,c,h1,(hb b (qn h2)).trans h2,h3,h4,h5,λi p v hp hv=>(h6 i p v hp hv).mono st⟩
 ·intro o ver es hs;obtain⟨b,k,ms,cl,h1,h2,h3,h4⟩:=h.maps o ver es hs;exact⟨b,k,ms,cl,h1,(hb b (qn h2)).trans h2,h3,λi e m he hm=>⟨(h4 i e m he hm).1,(h4 i e m he hm).2.mono st⟩⟩
theorem Sim.drew{C:Ctx}{S:Store}{w:World}(h:Sim C S w):Sim C S w.drew/\Step C S w C S w.drew :=
 h.still rfl ⟨rfl,CD _⟩ rfl (Af _) (λ_ _=>rfl)
theorem uA(w:World)(o:Obj)(b:Nat)(h:b<w.heap.size):(w.alloc o).heap[b]?=w.heap[b]?:=by
 show (w.heap.push o)[b]?=_
 grind
theorem Z3(w:World)(o:Obj):(w.alloc o).heap[w.heap.size]?=some o:=by
 show (w.heap.push o)[w.heap.size]?=_
 simp
theorem Sim.alloc{C:Ctx}{S:Store}{w:World}(h:Sim C S w)(o:Obj):Sim C S (w.alloc o)/\Step C S w C S (w.alloc o)/\¬C.M S w.heap.size:=by
 obtain⟨h1,h2⟩:=h.still (w':=w.alloc o) rfl ⟨rfl,Af _⟩ rfl DC (λb hb=>uA w o b hb);exact⟨h1,h2,λhM=>by have:=h.M_lt hM;omega⟩
theorem Sim.free{C:Ctx}{S:Store}{w:World}(h:Sim C S w):S C.next=.dead:=by
 cases hs:S C.next with
 | dead=>rfl
 | cells v e cs=>have:=h.lt C.next (by rw[hs];simp);omega
 | map v es=>have:=h.lt C.next (by rw[hs];simp);omega
def Ctx.put(C:Ctx)(o ver:Nat)(x:Option (Nat × Nat)):Ctx:={ loc:=λi=>if i=o then x else C.loc i,next:=max C.next (o+1),clock:=max C.clock (ver+1) }
structure Fresh (C:Ctx) (S:Store) (o ver:Nat):Prop where
 dead:S o=.dead
 new:C.next<=o\/C.clock<=ver
theorem Sim.step_new{C:Ctx}{S:Store}{w w':World}{o ver:Nat}(hf:Fresh C S o ver){x:Ob}(hx:x.ver=some ver)(l:Option (Nat × Nat))(ho:w'.os=w.os)(ht:w'.tape=w.tape/\w.drawn<=w'.drawn)(hu:w'.output=w.output)
  (hz:w.heap.size<=w'.heap.size) (hb:∀b,b<w.heap.size->w'.heap[b]?=w.heap[b]?) (hl:∀b k,l=some (b,k)->w.heap.size<=b):Step C S w (C.put o ver l) (S.set o x) w':=by
 have hloc:∀i,i≠o->(C.put o ver l).loc i=C.loc i:=λi hi=>by simp_all[Ctx.put]
 have hlocn:(C.put o ver l).loc o=l:=by simp[Ctx.put]
 refine⟨ho,ht,hu,hz,by grind[Ctx.put],by grind[Ctx.put],λb hlt hM=>⟨hb b hlt,?_⟩,?_⟩
 ·rintro⟨i,k,hi,hl'⟩
  by_cases hc:i=o
  ·grind
  ·rw[hloc i hc]at hl';rw[q10 _ _ _ _ hc]at hi;exact hM ⟨i,k,hi,hl'⟩
 ·intro i v1 hv
  by_cases hc:i=o
  ·subst hc;rw[q11,hx]at hv;cases hv;exact .inl hf.new
  simp_all[q10]
theorem Sim.object'{C:Ctx}{S:Store}{w:World}(h:Sim C S w){o ver:Nat}(hf:Fresh C S o ver)(e:TypeId)(c:Array Value)(cs:List PV)(hl:cs.length<=c.size)
  (h1:∀(i:Nat) (v:Value),i<cs.length->c[i]?=some v->v.oneCell'=true)
  (hr:∀(i:Nat) (p:PV) (v:Value),cs[i]?=some p->c[i]?=some v->Rel C S w p v) :
  Sim (C.put o ver (some (w.heap.size,c.size))) (S.set o (.cells ver e cs)) (w.alloc (.cells c e)) /\
  Step C S w (C.put o ver (some (w.heap.size,c.size))) (S.set o (.cells ver e cs)) (w.alloc (.cells c e)):=by
 have hloc:∀i,i≠o->(C.put o ver (some (w.heap.size,c.size))).loc i=C.loc i:=λi hi=>by simp_all[Ctx.put]
 have hlocn:(C.put o ver (some (w.heap.size,c.size))).loc o=some (w.heap.size,c.size):=by simp[Ctx.put]
 have st:Step C S w (C.put o ver (some (w.heap.size,c.size))) (S.set o (.cells ver e cs)) (w.alloc (.cells c e)) :=
  Sim.step_new hf rfl _ rfl ⟨rfl,Af _⟩ rfl DC (λb hb=>uA w _ b hb) (λb k hq=>by simp_all)
 refine⟨⟨?_,?_,?_,?_,?_⟩,st⟩
 ·intro i hi
  by_cases hc:i=o
  ·grind[Ctx.put]
  ·rw[q10 _ _ _ _ hc]at hi;have:=h.lt i hi
   grind[Ctx.put]
 ·intro i v hv
  by_cases hc:i=o
  ·subst hc;rw[q11]at hv;cases hv;grind[Ctx.put]
  ·rw[q10 _ _ _ _ hc]at hv;have:=h.clk i v hv
   grind[Ctx.put]
 ·intro i i' b k k' ho ho' hl hl'
  by_cases hc:i=o<;>by_cases hc':i'=o
  ·omega
  ·subst hc;rw[hlocn]at hl;rw[hloc i' hc']at hl';rw[q10 _ _ _ _ hc']at ho';have:=h.M_lt ⟨i',k',ho',hl'⟩
   simp_all
  ·subst hc';rw[hlocn]at hl';rw[hloc i hc]at hl;rw[q10 _ _ _ _ hc]at ho;have:=h.M_lt ⟨i,k,ho,hl⟩
   simp_all
  ·rw[hloc i hc]at hl;rw[hloc i' hc']at hl';rw[q10 _ _ _ _ hc]at ho;rw[q10 _ _ _ _ hc']at ho';exact h.dist i i' b k k' ho ho' hl hl'
 ·intro i ver' e' cs' hs
  by_cases hc:i=o
  ·subst hc;rw[q11]at hs;cases hs;exact .inr ⟨w.heap.size,c.size,c,hlocn,Z3 w _,rfl,hl,h1,λi p v hp hv=>(hr i p v hp hv).mono st⟩
  ·rw[q10 _ _ _ _ hc]at hs;rcases h.cells i ver' e' cs' hs with hn | ⟨b,k,c',g1,g2,g3,g4,g5,g6⟩
   ·simp_all
   ·exact .inr ⟨b,k,c',(hloc i hc).trans g1,(uA w _ b (qn g2)).trans g2,g3,g4,g5,λi p v hp hv=>(g6 i p v hp hv).mono st⟩
 ·intro i ver' es hs
  by_cases hc:i=o
  ·simp_all[q11]
  ·rw[q10 _ _ _ _ hc]at hs;obtain⟨b,k,ms,cl,g1,g2,g3,g4⟩:=h.maps i ver' es hs;exact⟨b,k,ms,cl,(hloc i hc).trans g1,(uA w _ b (qn g2)).trans g2,g3,λi e m he hm=>⟨(g4 i e m he hm).1,(g4 i e m he hm).2.mono st⟩⟩
theorem Sim.kill{C:Ctx}{S S':Store}{w:World}(h:Sim C S w)(hk:∀o,S' o=S o\/S' o=.dead):Sim C S' w/\Step C S w C S' w:=by
 have hd:∀o,S' o≠.dead->S' o=S o:=λo ho=>(hk o).resolve_right ho
 have hM:∀b,C.M S' b->C.M S b:=λb ⟨o,k,ho,hl⟩=>⟨o,k,by grind,hl⟩
 have st:Step C S w C S' w:=by
  refine⟨rfl,⟨rfl,Af _⟩,rfl,Af _,Af _,Af _,λb _ hb=>⟨rfl,λh=>hb (hM b h)⟩,λo v1 hv=>?_⟩;have:S' o≠.dead:=by intro e;rw[e]at hv;cases hv
  rw[hd o this]at hv;exact .inr ⟨v1,hv,Af _,λ_=>rfl⟩
 refine⟨⟨λo ho=>h.lt o DI,λo v hv=>h.clk o v (by rw[<-hd o (by intro e;rw[e]at hv;cases hv)];exact hv),λo o' b k k' ho ho'=>h.dist o o' b k k' DI DI,?_,?_⟩,st⟩
 ·intro o ver e cs hs;have:=hd o (by rw[hs];simp);rcases h.cells o ver e cs (this ▸ hs) with hn | ⟨b,k,c,h1,h2,h3,h4,h5,h6⟩
  ·exact .inl hn
  ·exact .inr ⟨b,k,c,h1,h2,h3,h4,h5,λi p v hp hv=>(h6 i p v hp hv).mono st⟩
 ·intro o ver es hs;have:=hd o (by rw[hs];simp);obtain⟨b,k,ms,cl,h1,h2,h3,h4⟩:=h.maps o ver es (this ▸ hs);exact⟨b,k,ms,cl,h1,h2,h3,λi e m he hm=>⟨(h4 i e m he hm).1,(h4 i e m he hm).2.mono st⟩⟩
def Ctx.at(C:Ctx)(o ver:Nat)(l:Option (Nat × Nat)):Ctx:={ loc:=λi=>if i=o then l else C.loc i,next:=C.next,clock:=max C.clock (ver+1) }
theorem Sim.turn{C:Ctx}{S:Store}{w w':World}(h:Sim C S w){o ver e:Nat}{cs:List PV}(hs:S o=.cells ver e cs){ver':Nat}{cs':List PV}{l:Option (Nat × Nat)}
  (hver:ver<=ver') (hsame:ver=ver'->l=C.loc o)
  (hg:w.grownBy w' ((C.loc o).map (·.1))/\w.drawn<=w'.drawn)
  (hl:(l=none/\cs'=[])\/∃b k c,l=some (b,k)/\(w.heap.size<=b\/(C.loc o).map (·.1)=some b)/\w'.heap[b]?=some (.cells c e (0,0))/\c.size=k/\cs'.length<=k /\
   (∀(i:Nat) (v:Value),i<cs'.length->c[i]?=some v->v.oneCell'=true)/\∀(i:Nat) (p:PV) (v:Value),cs'[i]?=some p->c[i]?=some v->Rel C S w p v) :
  Sim (C.at o ver' l) (S.set o (.cells ver' e cs')) w' /\
  Step C S w (C.at o ver' l) (S.set o (.cells ver' e cs')) w':=by
 have hne:S o≠.dead:=by rw[hs];simp
 have hsame':∀i,i≠o->(C.at o ver' l).loc i=C.loc i:=λi hi=>by simp[Ctx.at,hi]
 have hloco:(C.at o ver' l).loc o=l:=by simp[Ctx.at]
 have hfar:∀i b k,i≠o->S i≠.dead->C.loc i=some (b,k)->some b≠(C.loc o).map (·.1):=by
  intro i b k hi hd hb he;cases ho:C.loc o with
  | none=>simp_all
  | some x =>
   obtain⟨b',k'⟩:=x;rw[ho]at he;simp only[A5,Option.some.injEq]at he;subst he;exact hi (h.dist i o b k k' hd hne hb ho)
 have st:Step C S w (C.at o ver' l) (S.set o (.cells ver' e cs')) w':=by
  refine⟨hg.1.os,⟨hg.1.tape,hg.2⟩,hg.1.output,hg.1.size,Af _,by grind[Ctx.at],λb hb hM=>⟨hg.1.block b hb ?_,?_⟩,?_⟩
  ·intro he;cases ho:C.loc o with
   | none=>simp_all
   | some x =>
    obtain⟨b',k'⟩:=x;rw[ho]at he;simp only[A5,Option.some.injEq]at he;subst he;exact hM ⟨o,k',hne,ho⟩
  ·rintro⟨i,k,hd,hb'⟩
   by_cases hi:i=o
   ·subst hi;rw[hloco]at hb';rcases hl with ⟨h0,_⟩ | ⟨b2,k2,c,h0,h1,_⟩
    ·simp_all
    ·rw[h0]at hb';cases hb';rcases h1 with h1 | h1
     ·omega
     ·cases ho:C.loc i with
      | none=>simp_all
      | some x =>
       obtain⟨b',k'⟩:=x;rw[ho]at h1;simp only[A5,Option.some.injEq]at h1;subst h1;exact hM ⟨i,k',hne,ho⟩
   ·rw[hsame' i hi]at hb';rw[q10 _ _ _ _ hi]at hd;exact hM ⟨i,k,hd,hb'⟩
  ·grind[q11,Ob.ver,q10]
 refine⟨⟨?_,?_,?_,?_,?_⟩,st⟩
 ·intro i hi
  by_cases hc:i=o
  ·subst hc;exact h.lt i hne
  ·rw[q10 _ _ _ _ hc]at hi;exact h.lt i hi
 ·intro i v hv
  by_cases hc:i=o
  ·subst hc;rw[q11]at hv;cases hv;grind[Ctx.at]
  ·rw[q10 _ _ _ _ hc]at hv;have:=h.clk i v hv
   grind[Ctx.at]
 ·have one:∀i b k k',i≠o->S i≠.dead->C.loc i=some (b,k)->l=some (b,k')->False:=by
   intro i b k k' hi hd hb hl';rcases hl with ⟨h0,_⟩ | ⟨b2,k2,c,h0,h1,_⟩
   ·simp_all
   ·rw[h0]at hl';cases hl';rcases h1 with h1 | h1
    ·have:=h.M_lt ⟨i,k,hd,hb⟩;omega
    grind
  intro i j b k k' hi hj hl1 hl2
  by_cases hc:i=o<;>by_cases hc':j=o
  ·omega
  ·grind[q10]
  ·grind[q10]
  ·rw[hsame' i hc]at hl1;rw[hsame' j hc']at hl2;rw[q10 _ _ _ _ hc]at hi;rw[q10 _ _ _ _ hc']at hj;exact h.dist i j b k k' hi hj hl1 hl2
 ·intro i v' e' ds hi
  by_cases hc:i=o
  ·subst hc;rw[q11]at hi;cases hi;rcases hl with ⟨h0,h1⟩ | ⟨b,k,c,h0,_,h2,h3,h4,h5,h6⟩
   ·simp_all
   ·exact .inr ⟨b,k,c,hloco.trans h0,h2,h3,h4,h5,λj p v hp hv=>(h6 j p v hp hv).mono st⟩
  ·rw[q10 _ _ _ _ hc]at hi;rcases h.cells i v' e' ds hi with hn | ⟨b,k,c',g1,g2,g3,g4,g5,g6⟩
   ·grind
   ·exact .inr ⟨b,k,c',(hsame' i hc).trans g1,(hg.1.block b (qn g2) (hfar i b k hc (by rw[hi];simp) g1)).trans g2,g3,g4,g5,λj p v hp hv=>(g6 j p v hp hv).mono st⟩
 ·intro i ver2 es hi
  by_cases hc:i=o
  ·simp_all[q11]
  ·rw[q10 _ _ _ _ hc]at hi;obtain⟨b,k,ms,cl,g1,g2,g3,g4⟩:=h.maps i ver2 es hi;exact⟨b,k,ms,cl,(hsame' i hc).trans g1,(hg.1.block b (qn g2) (hfar i b k hc (by rw[hi];simp) g1)).trans g2,g3,λj x m he hm=>⟨(g4 j x m he hm).1,(g4 j x m he hm).2.mono st⟩⟩
open Go
def YH(v:Value):PV :=
 match v with
 | .agg cs=>if cs.all (·.oneCell') then .agg (cs.toList.map .sc) else .sc v
 | v=>.sc v
def ev(F:Nat->PV):Operand->PV
 | .tmp t=>F t
 | .const v=>YH v
 | .global g=>.sc (.pointer (some ⟨g,0,none⟩))
 | .func f=>.fn (.func f) [] []
def xV(F:Nat->PV)(d:Nat)(p:PV):Nat->PV:=λi=>if i=d then p else F i
def z6(F:Nat->PV)(d:Option Nat)(p:PV):Nat->PV :=
 match d with
 | some d=>xV F d p
 | none=>F
theorem Zc5(F:Nat->PV)(d:Nat)(p:PV):xV F d p d=p:=by simp[xV]
theorem Zc6(F:Nat->PV)(d i:Nat)(p:PV)(h:i≠d):xV F d p i=F i:=by simp[xV,h]
def PV.cells:PV->List PV
 | .agg cs=>cs
 | p=>[p]
def PV.one:PV->Bool
 | .junk | .agg _ | .tup _=>false
 | .sc v=>v.oneCell'
 | _=>true
theorem Wg{C:Ctx}{S:Store}{w:World}(v:Value):Rel C S w (YH v) v:=by
 unfold YH;split
 ·split
  ·rename_i cs h;refine .agg DC ?_ ?_
   ·grind
   ·intro i c v hc hv;simp only[Ah,Array.getElem?_toList,hv,A5,Option.some.injEq]at hc;subst hc;exact .sc v
  ·exact .sc _
 ·exact .sc _
theorem Rel.cells{C:Ctx}{S:Store}{w:World}{p:PV}{v:Value}(h:Rel C S w p v)(h1:p.cells.all PV.one=true):
  p.cells.length=v.cells.size/\(∀(i:Nat) (u:Value),v.cells[i]?=some u->u.oneCell'=true)/\∀(i:Nat) (c:PV) (u:Value),p.cells[i]?=some c->v.cells[i]?=some u->Rel C S w c u:=by
 cases h with
 | agg hl h2 hr=>exact⟨hl,h2,hr⟩
 | junk=>simp_all[PV.cells,PV.one]
 | tup=>simp_all[PV.cells,PV.one]
 | sc v =>
  simp only[PV.cells,PV.one,Cj,Do,CR]at h1;have hv:v.cells=#[v]:=by cases v<;>first | rfl | cases h1
  rw[hv];refine⟨rfl,?_,?_⟩
  ·grind
  ·intro i c u hc hu;rcases i with _ | i
   ·simp[PV.cells]at hc hu;subst hc;subst hu;exact .sc _
   ·simp at hu
 | lst0=>exact⟨rfl,by intro i u hu;rcases i with _ | i<;>simp[Value.cells]at hu;subst hu;rfl,by intro i c u hc hu;rcases i with _ | i<;>simp[PV.cells,Value.cells]at hc hu;subst hc;subst hu;exact .lst0⟩
 | lst1 a1 a2 a3 a4 a5 a6 a7=>exact⟨rfl,by intro i u hu;rcases i with _ | i<;>simp[Value.cells]at hu;subst hu;rfl,by intro i c u hc hu;rcases i with _ | i<;>simp[PV.cells,Value.cells]at hc hu;subst hc;subst hu;exact .lst1 a1 a2 a3 a4 a5 a6 a7⟩
 | nl0=>exact⟨rfl,by intro i u hu;rcases i with _ | i<;>simp[Value.cells]at hu;subst hu;rfl,by intro i c u hc hu;rcases i with _ | i<;>simp[PV.cells,Value.cells]at hc hu;subst hc;subst hu;exact .nl0⟩
 | nl a1 a2 a3 a4 a5 a6=>exact⟨rfl,by intro i u hu;rcases i with _ | i<;>simp[Value.cells]at hu;subst hu;rfl,by intro i c u hc hu;rcases i with _ | i<;>simp[PV.cells,Value.cells]at hc hu;subst hc;subst hu;exact .nl a1 a2 a3 a4 a5 a6⟩
 | ip a3 a4 a5 a6 a7=>exact⟨rfl,by intro i u hu;rcases i with _ | i<;>simp[Value.cells]at hu;subst hu;rfl,by intro i c u hc hu;rcases i with _ | i<;>simp[PV.cells,Value.cells]at hc hu;subst hc;subst hu;exact .ip a3 a4 a5 a6 a7⟩
 | ptr a b c =>
  obtain⟨x,rfl⟩:=a;exact⟨rfl,by intro i u hu;rcases i with _ | i<;>simp[Value.cells]at hu;subst hu;rfl,by intro i c u hc hu;rcases i with _ | i<;>simp[PV.cells,Value.cells]at hc hu;subst hc;subst hu;exact .ptr ⟨_,rfl⟩ b c⟩
 | sl a b c =>
  obtain⟨x,y,rfl,z⟩:=a;exact⟨rfl,by intro i u hu;rcases i with _ | i<;>simp[Value.cells]at hu;subst hu;rfl,by intro i c u hc hu;rcases i with _ | i<;>simp[PV.cells,Value.cells]at hc hu;subst hc;subst hu;exact .sl ⟨_,_,rfl,z⟩ b c⟩
 | fn a b c d=>exact⟨rfl,by intro i u hu;rcases i with _ | i<;>simp[Value.cells]at hu;subst hu;rfl,by intro i c u hc hu;rcases i with _ | i<;>simp[PV.cells,Value.cells]at hc hu;subst hc;subst hu;exact .fn a b ‹_› d⟩
 | ifc a=>exact⟨rfl,by intro i u hu;rcases i with _ | i<;>simp[Value.cells]at hu;subst hu;rfl,by intro i c u hc hu;rcases i with _ | i<;>simp[PV.cells,Value.cells]at hc hu;subst hc;subst hu;exact .ifc a⟩
 | mp a b c =>
  obtain⟨x,rfl⟩:=a;exact⟨rfl,by intro i u hu;rcases i with _ | i<;>simp[Value.cells]at hu;subst hu;rfl,by intro i c u hc hu;rcases i with _ | i<;>simp[PV.cells,Value.cells]at hc hu;subst hc;subst hu;exact .mp ⟨_,rfl⟩ b c⟩
def Jd(d:Option TypeDesc):Bool :=
 match d with
 | some (.struct _)=>true
 | some (.array _ _)=>true
 | _=>false
def uB(P:Program)(t:TypeId)(cs:List PV):Option PV :=
 if Jd (P.underlying t) then (if P.cellsOf t<=cs.length then some (.agg (cs.take (P.cellsOf t))) else none) else cs.head?
def Wh(op:BinOp)(k:IntKind)(a:Int)(k':IntKind)(b:Int):Option Value :=
 match op with
 | .shl=>if b<0 then none else some (.int k (k.wrap (a*2 ^ (min b.toNat k.bits))))
 | .shr=>if b<0 then none else some (.int k (a.fdiv (2 ^ (min b.toNat k.bits))))
 | .add=>if k=k' then some (.int k (k.wrap (a+b))) else none
 | .sub=>if k=k' then some (.int k (k.wrap (a-b))) else none
 | .mul=>if k=k' then some (.int k (k.wrap (a*b))) else none
 | .quo=>if k=k'/\b≠0 then some (.int k (k.wrap (a.tdiv b))) else none
 | .rem=>if k=k'/\b≠0 then some (.int k (a.tmod b)) else none
 | .and=>if k=k' then some (.int k (bits .and k a b)) else none
 | .or=>if k=k' then some (.int k (bits .or k a b)) else none
 | .xor=>if k=k' then some (.int k (bits .xor k a b)) else none
 | .andNot=>if k=k' then some (.int k (bits .andNot k a b)) else none
 | .eql=>if k=k' then some (.bool (a == b)) else none
 | .neq=>if k=k' then some (.bool (a != b)) else none
 | .lss=>if k=k' then some (.bool (decide (a<b))) else none
 | .leq=>if k=k' then some (.bool (decide (a<=b))) else none
 | .gtr=>if k=k' then some (.bool (decide (a > b))) else none
 | .geq=>if k=k' then some (.bool (decide (a>=b))) else none
theorem Zij{P:Program}{w:World}{op:BinOp}{k k':IntKind}{a b:Int}{v:Value}(t:TypeId)(h:Wh op k a k' b=some v):
  (binOp op t (.int k a) (.int k' b)).run P w=.ok v w:=by
 cases op<;>simp only[Wh,CM,Option.ite_none_left_eq_some,Option.some.injEq]at h
 case shl=>obtain⟨h0,rfl⟩:=h;simp[binOp,Op.shift,h0]
 case shr=>obtain⟨h0,rfl⟩:=h;simp[binOp,Op.shift,h0]
 case quo=>obtain⟨⟨rfl,h0⟩,rfl⟩:=h;simp_all[binOp,Op.intDiv]
 case rem=>obtain⟨⟨rfl,h0⟩,rfl⟩:=h;simp_all[binOp,Op.intDiv]
 all_goals
  obtain⟨rfl,rfl⟩:=h;simp[binOp,Op.intArith,Op.intCmp,Op.intBits,bits]
def yt(op:BinOp)(x y:ByteArray):Option Value :=
 match op with
 | .add=>if x.size+y.size<=9223372036854775807 then some (.string (x++y)) else none
 | .eql=>some (.bool (x.toList == y.toList))
 | .neq=>some (.bool (!(x.toList == y.toList)))
 | .lss=>some (.bool (Op.bytesLess x.toList y.toList))
 | .leq=>some (.bool (Op.bytesLess x.toList y.toList || x.toList == y.toList))
 | .gtr=>some (.bool (!(Op.bytesLess x.toList y.toList || x.toList == y.toList)))
 | .geq=>some (.bool (!(Op.bytesLess x.toList y.toList)))
 | _=>none
theorem Zik{P:Program}{w:World}{op:BinOp}{x y:ByteArray}{v:Value}(t:TypeId)(h:yt op x y=some v):
  (binOp op t (.string x) (.string y)).run P w=.ok v w:=by
 cases op<;>simp only[yt,CM,Option.some.injEq,reduceCtorEq]at h
 case add =>
  obtain⟨h0,rfl⟩:=h;simp only[binOp,Op.stringOp,IntKind.max_i64];rw[if_neg DB];rfl
 all_goals simp_all[binOp,Op.stringOp]
theorem Zc7{P:Program}{t:TypeId}(hb:P.underlying t=some .bool)(w:World)(a b:Bool):(Op.equal t (.bool a) (.bool b)).run P w=.ok (a == b) w:=by
 unfold Op.equal Op.maxDepth
 show (Op.equalIn (9999+1) _ _ _).run P w=_
 unfold Op.equalIn;simp[run_underlying hb]
theorem Wi{P:Program}{t e:TypeId}(hb:P.underlying t=some (.pointer e))(w:World)(a:Option Addr):(Op.equal t (.pointer a) (.pointer none)).run P w=.ok a.isNone w:=by
 unfold Op.equal Op.maxDepth
 show (Op.equalIn (9999+1) _ _ _).run P w=_
 unfold Op.equalIn;cases a<;>simp[run_underlying hb]
def Wj(P:Program)(op:BinOp)(t:TypeId)(x y:PV):Option PV :=
 match x,y with
 | .sc (.int k a),.sc (.int k' b)=>(Wh op k a k' b).map .sc
 | .sc (.string a),.sc (.string b)=>(yt op a b).map .sc
 | .sc (.bool a),.sc (.bool b) =>
  match P.underlying t,op with
  | some .bool,.eql=>some (.sc (.bool (a == b)))
  | some .bool,.neq=>some (.sc (.bool (!(a == b))))
  | _,_=>none
 | .ptr _ _ _,.sc (.pointer none) =>
  match P.underlying t,op with
  | some (.pointer _),.eql=>some (.sc (.bool false))
  | some (.pointer _),.neq=>some (.sc (.bool true))
  | _,_=>none
 | .sc (.pointer none),.sc (.pointer none) =>
  match P.underlying t,op with
  | some (.pointer _),.eql=>some (.sc (.bool true))
  | some (.pointer _),.neq=>some (.sc (.bool false))
  | _,_=>none
 | _,_=>none
theorem Zil{P:Program}{C:Ctx}{S:Store}{w:World}{op:BinOp}{t:TypeId}{x y:PV}{p:PV}{u v:Value}(X Y:Operand)(h:Wj P op t x y=some p)
  (hu:Rel C S w x u) (hv:Rel C S w y v) :
  ∃r,(do eqGuard op t X Y u v;binOp op t u v:Sem Value).run P w=.ok r w/\Rel C S w p r:=by
 unfold Wj at h;split at h
 ·cases hu;cases hv;obtain⟨r,hr,rfl⟩:=Am.1 h;exact⟨r,by simp_all[eqGuard_at_int,Zij],.sc _⟩
 ·cases hu;cases hv;obtain⟨r,hr,rfl⟩:=Am.1 h;exact⟨r,by simp_all[eqGuard_at_string,Zik],.sc _⟩
 ·cases hu;cases hv;split at h
  ·rename_i hb;cases h;exact⟨_,by simp_all[eqGuard_at_bool,binOp,Zc7],.sc _⟩
  ·rename_i hb;cases h;exact⟨_,by simp_all[eqGuard_at_bool,binOp,Zc7],.sc _⟩
  ·cases h
 ·cases hv;cases hu with
  | ptr h1 h2 h3 =>
   obtain⟨a,rfl⟩:=h1;split at h
   ·rename_i e hb;cases h;exact⟨_,by simp_all[eqGuard_at_pointer,binOp,Wi],.sc _⟩
   ·rename_i e hb;cases h;exact⟨_,by simp_all[eqGuard_at_pointer,binOp,Wi],.sc _⟩
   ·cases h
 ·cases hu;cases hv;split at h
  ·rename_i e hb;cases h;exact⟨_,by simp_all[eqGuard_at_pointer,binOp,Wi],.sc _⟩
  ·rename_i e hb;cases h;exact⟨_,by simp_all[eqGuard_at_pointer,binOp,Wi],.sc _⟩
  ·cases h
 ·cases h
open Go
def Qm(P:Program)(t:TypeId)(x i:PV):Option PV :=
 match i with
 | .sc (.int _ n) =>
  match P.underlying t with
  | some (.slice e) =>
   match x with
   | .lst len cs=>if (0<=n/\n<(len:Int))/\P.cellsOf e≠0 then some (.ip (cs.drop (n.toNat * P.cellsOf e))) else none
   | .sl o ver _ off len=>if (0<=n/\n<(len:Int))/\P.cellsOf e≠0 then some (.ptr o ver (off+n.toNat * P.cellsOf e)) else none
   | _=>none
  | some (.array len e) =>
   match x with
   | .ip cs=>if (0<=n/\n<(len:Int))/\P.cellsOf e≠0 then some (.ip (cs.drop (n.toNat * P.cellsOf e))) else none
   | .ptr o ver off=>if (0<=n/\n<(len:Int))/\P.cellsOf e≠0 then some (.ptr o ver (off+n.toNat * P.cellsOf e)) else none
   | _=>none
  | _=>none
 | _=>none
theorem wS{P:Program}{t:TypeId}(h:P.cellsOf t≠0)(w:World):(sizeOf t).run P w=.ok (P.cellsOf t) w:=by
 unfold sizeOf typeInfo;unfold Program.cellsOf at h ⊢;cases hi:P.info? t<;>simp_all
theorem Zc8{P:Program}{t:TypeId}{d:TypeDesc}(h:P.underlying t=some d)(w:World):(sizeOf t).run P w=.ok (P.cellsOf t) w:=by
 unfold sizeOf typeInfo Program.cellsOf;unfold Program.underlying at h;cases hi:P.info? t<;>simp_all
theorem Xa{C:Ctx}{S:Store}{w:World}{c:Array Value}{o k:Nat}{cs:List PV}(hs:cs≠[]->o+cs.length<=c.size)
  (h1:∀(i:Nat) (v:Value),i<cs.length->c[o+i]?=some v->v.oneCell'=true)
  (h:∀(i:Nat) (p:PV) (v:Value),cs[i]?=some p->c[o+i]?=some v->Rel C S w p v) :
  (cs.drop k≠[]->(o+k)+(cs.drop k).length<=c.size)/\(∀(i:Nat) (v:Value),i<(cs.drop k).length->c[(o+k)+i]?=some v->v.oneCell'=true) /\
  ∀(i:Nat) (p:PV) (v:Value),(cs.drop k)[i]?=some p->c[(o+k)+i]?=some v->Rel C S w p v:=by
 refine⟨λhne=>?_,λi v hi hv=>?_,λi p v hp hv=>?_⟩
 ·have hk:k<cs.length:=by
   rcases Be k cs.length with h | h
   ·exact h
   ·exact absurd (BN h) hne
  have:=hs (by intro e;rw[e]at hk;simp at hk);rw[Bj];omega
 ·rw[Bj]at hi;exact h1 (k+i) v DB (by rw[<-Nat.add_assoc];exact hv)
 grind
theorem Addr.add_plain(b o n:Nat):Addr.add ⟨b,o,none⟩ n=⟨b,o+n,none⟩:=Addr.add_lit b o n
theorem Zim{P:Program}{C:Ctx}{S:Store}{w:World}{t:TypeId}{x i p:PV}{u v:Value}
  (h:Qm P t x i=some p) (hu:Rel C S w x u) (hv:Rel C S w i v):∃r,(Instr.indexAt t u v).run P w=.ok r w/\Rel C S w p r:=by
 unfold Qm at h;split at h
 ·cases hv;rename_i k n;split at h
  ·rename_i e ht;split at h
   ·rename_i len cs;split at h
    ·rename_i hn;obtain⟨hn,hz⟩:=hn;cases h;cases hu with
     | lst0=>omega
     | lst1 hn' hm hb hM hs h1 hr =>
      obtain⟨g1,g2,g3⟩:=Xa (k:=n.toNat * P.cellsOf e) hs h1 hr;refine⟨_,?_,.ip hb hM g1 g2 g3⟩;simp[Instr.indexAt,asIntOf,run_underlying ht,hn,wS hz,Addr.add_plain]
    ·cases h
   ·rename_i o ver sz off len;split at h
    ·rename_i hn;obtain⟨hn,hz⟩:=hn;cases h;cases hu with
     | sl h1 h2 h3 =>
      obtain⟨a,cap,rfl,k1,k2,k3,k4⟩:=h1;obtain⟨b,f,rfl⟩:=k4 DB;refine⟨_,by simp[Instr.indexAt,asIntOf,run_underlying ht,hn,wS hz,Addr.add_plain];rfl,.ptr ⟨_,rfl⟩ h2 λv0 hv0=>?_⟩
      grind
    ·cases h
   ·cases h
  ·rename_i len e ht;split at h
   ·rename_i cs;split at h
    ·rename_i hn;obtain⟨hn,hz⟩:=hn;cases h;cases hu with
     | ip hb hM hs h1 hr =>
      obtain⟨g1,g2,g3⟩:=Xa (k:=n.toNat * P.cellsOf e) hs h1 hr;refine⟨_,?_,.ip hb hM g1 g2 g3⟩;simp[Instr.indexAt,asIntOf,run_underlying ht,hn,wS hz,Addr.add_plain,Instr.sureAddr]
    ·cases h
   ·rename_i o ver off;split at h
    ·rename_i hn;obtain⟨hn,hz⟩:=hn;cases h;cases hu with
     | ptr h1 h2 h3 =>
      obtain⟨a,rfl⟩:=h1;refine⟨_,by simp[Instr.indexAt,asIntOf,run_underlying ht,hn,wS hz,Instr.sureAddr];rfl,.ptr ⟨_,rfl⟩ h2 λv0 hv0=>?_⟩
      grind[Addr.add_plain]
    ·cases h
   ·cases h
  ·cases h
 ·cases h
def Wl(P:Program)(t:TypeId)(x:PV)(f:Nat):Option PV :=
 match P.underlying t with
 | some (.struct fs) =>
  match fs[f]? with
  | some fd =>
   if P.cellsOf fd.type=0 then none else
   match x with
   | .ip cs=>some (.ip (cs.drop fd.offset))
   | .ptr o ver off=>some (.ptr o ver (off+fd.offset))
   | _=>none
  | none=>none
 | _=>none
theorem Zin{P:Program}{C:Ctx}{S:Store}{w:World}{t:TypeId}{x p:PV}{f:Nat}{u:Value}(h:Wl P t x f=some p)(hu:Rel C S w x u):
  ∃r,(Instr.fieldAt t u f).run P w=.ok r w/\Rel C S w p r:=by
 unfold Wl at h;split at h
 ·rename_i fs ht;split at h
  ·rename_i fd hf;split at h
   ·cases h
   ·rename_i hz;have hsz:=wS hz w;split at h
    ·cases h;cases hu with
     | ip hb hM hs h1 hr =>
      obtain⟨g1,g2,g3⟩:=Xa (k:=fd.offset) hs h1 hr;refine⟨_,?_,.ip hb hM g1 g2 g3⟩;simp[Instr.fieldAt,run_underlying ht,hf,Instr.sureAddr,fieldPlace,hsz,hz,Addr.add_plain]
    ·cases h;cases hu with
     | ptr h1 h2 h3 =>
      obtain⟨a,rfl⟩:=h1;refine⟨_,by simp[Instr.fieldAt,run_underlying ht,hf,Instr.sureAddr,fieldPlace,hsz,hz];rfl,.ptr ⟨_,rfl⟩ h2 λv0 hv0=>?_⟩
      grind[Addr.add_plain]
    ·cases h
  ·cases h
 ·cases h
theorem Wm(c:Array Value)(o:Nat):c.extract o o=#[]:=DI
theorem Zc9{P:Program}{w:World}{b o:Nat}{c:Array Value}{e:TypeId}{fz:Nat × Nat}(hb:w.heap[b]?=some (.cells c e fz)):
  ∀(n i:Nat) (acc:Array Value),o+i+n<=c.size->(loadCellsFrom ⟨b,o,none⟩ i n acc).run P w=.ok (acc++c.extract (o+i) (o+i+n)) w:=by
 intro n
 induction n with
 | zero =>
  simp[loadCellsFrom,Wm]
 | succ n ih =>
  intro i acc h;have hc:w.cell? ⟨b,o+i,none⟩=some (c[o+i]' DB):=by
   simp[World.cell?,hb]
  unfold loadCellsFrom;simp only[Sem.run_bind,run_load,Addr.add_plain,hc,Aj];rw[ih (i+1) _ DB];congr 1
  grind
theorem Zda{P:Program}{t:TypeId}{d:TypeDesc}(h:P.underlying t=some d)(w:World):(isAgg t).run P w=.ok (Jd (P.underlying t)) w:=by
 unfold isAgg;rw[h];simp only[Sem.run_bind,run_underlying h,Aj];cases d<;>rfl
theorem Zae{P:Program}{C:Ctx}{S:Store}{w:World}{b o:Nat}{c:Array Value}{e:TypeId}{fz:Nat × Nat}{t:TypeId}{cs:List PV}{p:PV}{d:TypeDesc}(hd:P.underlying t=some d)
  (hb:w.heap[b]?=some (.cells c e fz)) (hs:cs≠[]->o+cs.length<=c.size)
  (h1:∀(i:Nat) (v:Value),i<cs.length->c[o+i]?=some v->v.oneCell'=true)
  (h:∀(i:Nat) (q:PV) (v:Value),cs[i]?=some q->c[o+i]?=some v->Rel C S w q v) (hp:uB P t cs=some p) :
  ∃r,(loadVar t ⟨b,o,none⟩).run P w=.ok r w/\Rel C S w p r:=by
 unfold uB at hp;unfold loadVar;simp only[Sem.run_bind,Zda hd,Aj];cases hg:Jd (P.underlying t)
 ·simp only[hg,AP,if_false]at hp ⊢;cases cs with
  | nil=>cases hp
  | cons q qs =>
   cases hp;have:=hs DC;simp only[Au]at this;have hc:w.cell? ⟨b,o,none⟩=some (c[o]' DB):=by simp[World.cell?,hb]
   refine⟨c[o]' DB,by simp_all,?_⟩;exact h 0 p _ rfl DC
 ·simp only[hg,if_true]at hp ⊢;split at hp
  ·rename_i hz;cases hp;refine⟨.agg (c.extract o (o+P.cellsOf t)),?_,?_⟩
   ·simp only[Sem.run_bind,Zc8 hd,Aj,loadCells]
    by_cases h0:P.cellsOf t=0
    ·simp_all[loadCellsFrom,Wm]
    ·have hne:cs≠[]:=by intro e;rw[e]at hz;simp at hz;exact h0 hz
     have:=hs hne;have hr:=Zc9 (P:=P) (o:=o) hb (P.cellsOf t) 0 #[] DB
     simp_all
   ·by_cases h0:P.cellsOf t=0
    ·rw[h0,Bs,Wm];refine .agg DC ?_ ?_
     ·intro i v hv;simp at hv
     ·intro i c v hc;simp at hc
    have hne:cs≠[]:=by intro e;rw[e]at hz;simp at hz;exact h0 hz
    have:=hs hne;have hx:∀(i:Nat) (v:Value),(c.extract o (o+P.cellsOf t))[i]?=some v->i<P.cellsOf t/\c[o+i]?=some v:=by
     intro i v hv;rw[BO]at hv;split at hv
     ·exact⟨by omega,hv⟩
     ·cases hv
    refine .agg DF ?_ ?_<;>grind
  ·cases hp
theorem Wn{P:Program}{C:Ctx}{S:Store}{w:World}{t:TypeId}{d:TypeDesc}(hd:P.underlying t=some d){cs:List PV}{vs:Array Value}{o:Nat}{p:PV}(hl:cs.length=vs.size)
  (h1:∀(i:Nat) (v:Value),vs[i]?=some v->v.oneCell'=true) (h:∀(i:Nat) (c:PV) (v:Value),cs[i]?=some c->vs[i]?=some v->Rel C S w c v)
  (hp:uB P t (cs.drop o)=some p):∃r,(part t vs o).run P w=.ok r w/\Rel C S w p r:=by
 unfold uB at hp;unfold part;simp only[Sem.run_bind,Zda hd,Aj];cases hg:Jd (P.underlying t)
 ·simp only[hg,AP,if_false]at hp ⊢;rw[List.head?_drop]at hp;have ho:o<cs.length:=(Ac.1 hp).1;have hv:vs[o]?=some (vs[o]' DB):=DC
  exact⟨_,by simp[hv],h o p _ hp hv⟩
 ·simp only[hg,if_true]at hp ⊢;split at hp
  ·rename_i hz;cases hp;rw[Bj]at hz;refine⟨.agg (vs.extract o (o+P.cellsOf t)),by simp[Zc8 hd],?_⟩
   by_cases h0:P.cellsOf t=0
   ·rw[h0,Bs,Wm];refine .agg DC ?_ ?_
    ·intro i v hv;simp at hv
    ·intro i c v hc;simp at hc
   have hx:∀(i:Nat) (v:Value),(vs.extract o (o+P.cellsOf t))[i]?=some v->i<P.cellsOf t/\vs[o+i]?=some v:=by
    intro i v hv;rw[BO]at hv;split at hv
    ·exact⟨by omega,hv⟩
    ·cases hv
   refine .agg DF ?_ ?_<;>grind
  ·cases hp
open Go
def RelL(C:Ctx)(S:Store)(w:World)(cs:List PV)(vs:Array Value):Prop :=
 cs.length=vs.size/\(∀(i:Nat) (v:Value),vs[i]?=some v->v.oneCell'=true)/\∀(i:Nat) (c:PV) (v:Value),cs[i]?=some c->vs[i]?=some v->Rel C S w c v
theorem RelL.mono{C C':Ctx}{S S':Store}{w w':World}(st:Step C S w C' S' w'){cs:List PV}{vs:Array Value}(h:RelL C S w cs vs):RelL C' S' w' cs vs :=
 ⟨h.1,h.2.1,λi c v hc hv=>(h.2.2 i c v hc hv).mono st⟩
theorem Zio(l:List Value):∀(k off:Nat) (cells:Array Value),off+k+l.length<=cells.size ->
  ((l.zipIdx k).foldl (λcs x=>cs.setIfInBounds (off+x.2) x.1) cells).size=cells.size /\
  ∀i,((l.zipIdx k).foldl (λcs x=>cs.setIfInBounds (off+x.2) x.1) cells)[i]?=if off+k<=i/\i<off+k+l.length then l[i-(off+k)]? else cells[i]?:=by
 induction l with
 | nil=>simp[if_neg]
 | cons x xs ih =>
  intro k off cells h;simp only[Au]at h;simp only[List.zipIdx_cons,AY];obtain⟨h1,h2⟩:=ih (k+1) off (cells.setIfInBounds (off+k) x) DF;refine⟨by rw[h1];simp,λi=>?_⟩;rw[h2 i];simp only[Au]
  by_cases hi:i=off+k
  ·subst hi;rw[if_neg DB,if_pos DB];have:off+k<cells.size:=DB
   simp[this]
  grind
def PV.fit:PV->Bool
 | .agg _=>true
 | p=>p.one
def Z4(place:Nat->Option (Nat × Nat))(cells:List PV):List (Nat × PV)->Option (List PV)
 | []=>some cells
 | (i,p) :: rest =>
  match place i with
  | none=>none
  | some (off,size) =>
   if p.cells.length=size/\off+size<=cells.length/\p.fit=true then Z4 place (cells.take off++p.cells++cells.drop (off+size)) rest else none
theorem Rel.cells'{C:Ctx}{S:Store}{w:World}{p:PV}{v:Value}(h:Rel C S w p v)(h1:p.fit=true):RelL C S w p.cells v.cells:=by
 cases p with
 | agg cs=>cases h with | agg hl h1 h2=>exact⟨hl,h1,h2⟩
 | junk=>cases h1
 | tup=>cases h1
 | sc v=>exact h.cells (by simp[PV.cells];exact h1)
 | _=>exact h.cells (by simp[PV.cells,PV.one])
theorem Zdb{C:Ctx}{S:Store}{w:World}{place:Nat->Option (Nat × Nat)}(F:Operand->PV)(ρ:Operand->Value)(hρ:∀x,Rel C S w (F x) (ρ x)):
  ∀(parts:List (Nat × Operand)) (cs:List PV) (vs:Array Value) (cs':List PV),RelL C S w cs vs->Z4 place cs (parts.map λx=>(x.1,F x.2))=some cs' ->
   ∃vs',Instr.fill place vs (parts.map λx=>(x.1,ρ x.2))=some vs'/\RelL C S w cs' vs':=by
 intro parts
 induction parts with
 | nil=>intro cs vs cs' h hf;cases hf;exact⟨vs,rfl,h⟩
 | cons x xs ih =>
  intro cs vs cs' h hf;obtain⟨i,x⟩:=x;simp only[AD,Z4]at hf;split at hf
  ·cases hf
  ·rename_i off size hp;split at hf
   ·rename_i hc;obtain⟨hc1,hc2,hc3⟩:=hc;have hr:=(hρ x).cells' hc3;obtain⟨hl,h1,h2⟩:=h;obtain⟨gl,g1,g2⟩:=hr;obtain⟨s1,s2⟩:=Zio (ρ x).cells.toList 0 off vs DF;simp only[Bs,Array.length_toList]at s1 s2;refine Exists.imp (λvs'=>And.imp_left λe=>?_) (ih _ (((ρ x).cells.toList.zipIdx 0).foldl (λcs x=>cs.setIfInBounds (off+x.2) x.1) vs) cs' ?_ hf)
    ·grind[Instr.fill,Array.toList_zipIdx]
    ·refine⟨?_,?_,?_⟩
     ·rw[s1];simp;omega
     ·grind
     ·intro j c v hc' hv;rw[s2 j]at hv;split at hv
      ·grind
      ·rename_i hj
       by_cases hlt:j<off
       ·grind[List.getElem?_append_left]
       ·rw[Ai DF,Aq,As,A9 DB,AK]at hc'
        grind
   ·cases hf
def Program.zeroOf(P:Program)(t:TypeId):Option Value:=(P.info? t).bind (·.zero)
theorem Qn{P:Program}{t:TypeId}{z:Value}(h:Program.zeroOf P t=some z)(w:World):(zeroValue t).run P w=.ok z w:=by
 unfold zeroValue typeInfo;unfold Program.zeroOf at h;cases hi:P.info? t<;>simp_all
def qZ(z:Value):List PV:=z.cells.toList.map .sc
theorem Zdc{C:Ctx}{S:Store}{w:World}{z:Value}(h:z.cells.all (·.oneCell')=true):RelL C S w (qZ z) z.cells:=by
 refine⟨by simp[qZ],?_,?_⟩
 ·grind
 ·intro i c v hc hv;simp only[qZ,Ah,Array.getElem?_toList,hv,A5,Option.some.injEq]at hc;subst hc;exact .sc v
def Zaf(P:Program)(t:TypeId):Nat->Option (Nat × Nat):=λi =>
 match P.underlying t with
 | some (.struct fs) =>
  match fs[i]? with
  | some f=>some (f.offset,P.cellsOf f.type)
  | none=>none
 | some (.array _ e)=>some (i*P.cellsOf e,P.cellsOf e)
 | _=>none
def Zag(P:Program)(t:TypeId):Bool :=
 match P.underlying t with
 | some (.struct fs)=>fs.all λf=>(P.info? f.type).isSome
 | some (.array _ e)=>(P.info? e).isSome
 | _=>false
def Wo(P:Program)(t:TypeId)(parts:List (Nat × PV)):Option PV :=
 match Program.zeroOf P t with
 | none=>none
 | some z=>if z.cells.all (·.oneCell')=true/\Zag P t=true then (Z4 (Zaf P t) (qZ z) parts).map .agg else none
theorem Zdd{P:Program}{t:TypeId}(h:(P.info? t).isSome=true)(w:World):(sizeOf t).run P w=.ok (P.cellsOf t) w:=by
 unfold sizeOf typeInfo Program.cellsOf;cases hi:P.info? t<;>simp_all
theorem Zip{P:Program}{w:World}:∀(l:List Field),(∀f∈l,(P.info? f.type).isSome=true) ->
  (l.mapM λf=>(do pure (f.offset,<-sizeOf f.type):Sem (Nat × Nat))).run P w=.ok (l.map λf=>(f.offset,P.cellsOf f.type)) w:=by
 intro l
 induction l<;>simp_all[Zdd]
theorem Ziq{P:Program}{C:Ctx}{S:Store}{w:World}{t:TypeId}{parts:List (Nat × Operand)}{p:PV}(F:Operand->PV)(ρ:Operand->Value)(hρ:∀x,Rel C S w (F x) (ρ x))
  (h:Wo P t (parts.map λx=>(x.1,F x.2))=some p):∃r,(Instr.build t (parts.map λx=>(x.1,ρ x.2)).toArray).run P w=.ok r w/\Rel C S w p r:=by
 unfold Wo at h;split at h
 ·cases h
 ·rename_i z hz;split at h
  ·rename_i hc;obtain⟨hone,hk⟩:=hc;obtain⟨cs',hf,rfl⟩:=Am.1 h;obtain⟨vs',hv,hr⟩:=Zdb F ρ hρ parts _ _ _ (Zdc hone) hf;refine⟨.agg vs',?_,.agg hr.1 hr.2.1 hr.2.2⟩;unfold Instr.build;simp only[Sem.run_bind,Qn hz,Aj];unfold Zag at hk;unfold Zaf at hv;cases ht:P.underlying t with
   | none=>simp_all
   | some d =>
    rw[ht]at hk hv;cases d with
    | struct fs =>
     simp only at hk hv;simp only[run_underlying ht,Aj,Sem.run_bind];have hm:=Zip (P:=P) (w:=w) fs.toList (λf hf=>by
      rw[Array.all_eq_true_iff_forall_mem]at hk;exact hk f (B1.1 hf))
     have hm':(fs.mapM λf=>(do pure (f.offset,<-sizeOf f.type):Sem (Nat × Nat))).run P w=.ok (fs.map λf=>(f.offset,P.cellsOf f.type)) w:=by
      rw[<-Array.toArray_toList (xs:=fs),List.mapM_toArray];simp only[Sem.run_map,hm,Aj];congr 1;apply BC.1;simp
     rw[hm'];simp only[Aj];have hpl:(λ(x:Nat)=>(fs.map λ(f:Field)=>(f.offset,P.cellsOf f.type))[x]?)=(λi=>match fs[i]? with | some (f:Field)=>some (f.offset,P.cellsOf f.type) | none=>none):=by
      funext i;rw[Array.getElem?_map];cases fs[i]?<;>rfl
     simp_all
    | array n e =>
     simp_all[run_underlying,Zdd]
    | _=>cases hk
  ·cases h
def yR(n:Nat)(z:Value):List PV:=(List.range (n*z.cells.size)).map λi=>.sc (z.cells[i % z.cells.size]!)
theorem Zde{C:Ctx}{S:Store}{w:World}{z:Value}(h:z.cells.all (·.oneCell')=true)(n:Nat):
  RelL C S w (yR n z) ((Array.range (n*z.cells.size)).map (z.cells[· % z.cells.size]!)):=by
 refine⟨by simp[yR],?_,?_⟩
 ·grind[Nat.mod_lt]
 ·intro i c v hc hv;rw[Array.getElem?_map,Am]at hv;obtain⟨j,hj,rfl⟩:=hv;obtain⟨h1,h2⟩:=Bf.1 hj;simp at h1 h2;subst h2;simp only[yR,Ah,Bt h1,A5,Option.some.injEq]at hc;subst hc;exact .sc _
def Z5(P:Program)(e:TypeId)(len:Nat)(parts:List (Nat × PV)):Option (List PV) :=
 match Program.zeroOf P e with
 | none=>none
 | some z=>if z.cells.all (·.oneCell')=true/\z.cells.size=P.cellsOf e/\P.cellsOf e≠0/\len*P.cellsOf e<=2 ^ 24 then
   Z4 (λi=>some (i*P.cellsOf e,P.cellsOf e)) (yR len z) parts else none
theorem Zdf{P:Program}{C:Ctx}{S:Store}{w:World}{t e:TypeId}{len:Nat}{parts:List (Nat × Operand)}{cs:List PV}(ht:P.underlying t=some (.slice e))(F:Operand->PV)(ρ:Operand->Value)
  (hρ:∀x,Rel C S w (F x) (ρ x)) (h:Z5 P e len (parts.map λx=>(x.1,F x.2))=some cs) :
  ∃vs,(Instr.buildSlice t len (parts.map λx=>(x.1,ρ x.2)).toArray).run P w=.ok (.slice (some ⟨w.heap.size,0,none⟩) len len) (w.alloc (.cells vs e))/\RelL C S w cs vs/\vs.size=len*P.cellsOf e:=by
 unfold Z5 at h;split at h
 ·cases h
 ·rename_i z hz;split at h
  ·rename_i hc;obtain⟨hone,hsz,h0,h24⟩:=hc;obtain⟨vs',hv,hr⟩:=Zdb F ρ hρ parts _ _ _ (Zde hone len) h;have hlen:∀(l:List (Nat × PV)) (a b:List PV) (pl:Nat->Option (Nat × Nat)),Z4 pl a l=some b->b.length=a.length:=by
    intro l
    induction l with
    | nil=>intro a b pl hh;cases hh;rfl
    | cons x xs ih =>
     grind[Z4]
   refine⟨vs',?_,hr,?_⟩
   ·unfold Instr.buildSlice;simp only[Sem.run_bind,run_underlying ht,Aj,wS h0];rw[if_neg DB]
    by_cases hl0:len*P.cellsOf e=0
    ·have hlen0:len=0:=by
      rcases Nat.mul_eq_zero.1 hl0 with h | h
      ·exact h
      ·exact absurd h h0
     subst hlen0;simp only[CI,C7,Dp]at hv;simp only[CI,if_true,Sem.run_pure,Aj,Sem.run_bind,C7,Dp];rw[hv];simp[newRow]
    simp_all[Qn,newRow]
   ·rw[<-hr.1,hlen _ _ _ _ h];simp_all[yR]
  ·cases h
open Go
def xG(d:Nat)(x:Option PV):Option Nat :=
 match x with
 | none=>some d
 | some (.sc (.int _ n))=>if 0<=n then some n.toNat else none
 | _=>none
theorem Zah{P:Program}{C:Ctx}{S:Store}{w:World}{d b y:Nat}{x:Option PV}{u:Option Value}(h:xG d x=some b)(hx:∀p,x=some p->∃v,u=some v/\Rel C S w p v)(hn:x=none->u=none)
  (hb:b<=y) (code:BoundsCode):(u=none/\b=d)\/∃v,u=some v/\(Instr.sliceBound v y code).run P w=.ok b w:=by
 unfold xG at h;split at h
 ·simp_all
 ·split at h
  ·rename_i k n hk;cases h;obtain⟨v,hv,hr⟩:=hx _ rfl;cases hr
   simp_all[Instr.sliceBound,asIntOf]
  ·cases h
 ·cases h
def Wp(P:Program)(t:TypeId)(x:PV)(lo hi mx:Option PV):Option PV :=
 match xG 0 lo with
 | none=>none
 | some l =>
  match x with
  | .lst n cs =>
   match P.underlying t,xG n hi,xG n mx with
   | some (.slice e),some h,some m =>
    if l<=h/\h<=m/\m<=n/\P.cellsOf e≠0/\(mx.isSome=true->hi.isSome=true) then some (.lst (h-l) ((cs.drop (l*P.cellsOf e)).take ((h-l)*P.cellsOf e))) else none
   | _,_,_=>none
  | .sl o ver sz off n =>
   match P.underlying t,xG n hi with
   | some (.slice e),some h=>if l<=h/\h<=n/\P.cellsOf e≠0/\sz=P.cellsOf e/\mx.isSome=false then some (.sl o ver sz (off+l*sz) (h-l)) else none
   | _,_=>none
  | .sc (.string s) =>
   match P.underlying t,xG s.size hi with
   | some .string,some h=>if l<=h/\h<=s.size/\mx.isSome=false then some (.sc (.string (s.extract l h))) else none
   | _,_=>none
  | _=>none
theorem Wq{P:Program}{C:Ctx}{S:Store}{w:World}{n cap l h m:Nat}{lo hi mx:Option PV}{ulo uhi umx:Option Value}(isSlice:Bool)(hl:xG 0 lo=some l)(hh:xG n hi=some h)
  (hm:xG cap mx=some m) (h1:l<=h) (h2:h<=m) (h3:m<=cap) (hmh:mx.isSome=true->hi.isSome=true)
  (rlo:(∀p,lo=some p->∃v,ulo=some v/\Rel C S w p v)/\(lo=none->ulo=none)) (rhi:(∀p,hi=some p->∃v,uhi=some v/\Rel C S w p v)/\(hi=none->uhi=none))
  (rmx:(∀p,mx=some p->∃v,umx=some v/\Rel C S w p v)/\(mx=none->umx=none)) :
  (Instr.sliceBounds isSlice n cap ulo uhi umx).run P w=.ok (l,h,m) w:=by
 unfold Instr.sliceBounds;have hM:∀code,(umx=none/\m=cap)\/∃v,umx=some v/\(Instr.sliceBound v cap code).run P w=.ok m w:=λcode=>Zah hm rmx.1 rmx.2 h3 code
 have hH:∀y code,h<=y->(uhi=none/\h=n)\/∃v,uhi=some v/\(Instr.sliceBound v y code).run P w=.ok h w:=λy code hy=>Zah hh rhi.1 rhi.2 hy code
 have hL:∀code,(ulo=none/\l=0)\/∃v,ulo=some v/\(Instr.sliceBound v h code).run P w=.ok l w:=λcode=>Zah hl rlo.1 rlo.2 h1 code
 have low:∀code,(match ulo with | some v=>(do let l <-Instr.sliceBound v h code;pure (l,h,m)) | none=>(do let l <-pure 0;pure (l,h,m)):Sem (Nat × Nat × Nat)).run P w=.ok (l,h,m) w:=by
  intro code;rcases hL code with ⟨rfl,rfl⟩ | ⟨v,rfl,hv⟩
  ·rfl
  ·simp_all
 rcases hM (if isSlice then .slice3Acap else .slice3Alen) with ⟨rfl,rfl⟩ | ⟨vm,rfl,hvm⟩
 ·rcases hH m (if isSlice then .sliceAcap else .sliceAlen) h2 with ⟨rfl,rfl⟩ | ⟨vh,rfl,hvh⟩
  ·exact low _
  ·simp only[pure_bind];rw[Sem.run_bind,hvh];exact low _
 ·rcases hH m .slice3B h2 with ⟨rfl,rfl⟩ | ⟨vh,rfl,hvh⟩
  ·have:hi.isSome=true:=hmh (by
    cases hq:mx with
    | none=>have:=rmx.2 hq;cases this
    | some _=>rfl)
   cases hq:hi<;>simp_all
  ·simp only;rw[Sem.run_bind,hvm];simp only[Aj];rw[Sem.run_bind,hvh];exact low _
theorem Zir{n b:Nat}{x:Option PV}(y:Nat)(h:xG n x=some b):x≠none->xG y x=some b:=by
 intro hx;unfold xG at h ⊢
 grind
theorem Zis{P:Program}{C:Ctx}{S:Store}{w:World}{t:TypeId}{x p:PV}{lo hi mx:Option PV}{u:Value}{ulo uhi umx:Option Value}(h:Wp P t x lo hi mx=some p)(hu:Rel C S w x u)
  (rlo:(∀p,lo=some p->∃v,ulo=some v/\Rel C S w p v)/\(lo=none->ulo=none)) (rhi:(∀p,hi=some p->∃v,uhi=some v/\Rel C S w p v)/\(hi=none->uhi=none))
  (rmx:(∀p,mx=some p->∃v,umx=some v/\Rel C S w p v)/\(mx=none->umx=none)):∃r,(Instr.sliceAt t u ulo uhi umx).run P w=.ok r w/\Rel C S w p r:=by
 unfold Wp at h;split at h
 ·cases h
 rename_i l hl;split at h
 ·rename_i n cs;split at h
  ·rename_i e hb m ht hh hm;split at h
   ·rename_i hc;obtain⟨c1,c2,c3,c4,c5⟩:=hc;cases h;have sz:=wS c4 w;have main:∀(a:Option Addr) (cap:Nat),n<=cap->∃m',hb<=m'/\(Instr.sliceAt t (.slice a n cap) ulo uhi umx).run P w=.ok (.slice (if m'=l then a else a.map (·.add (l*P.cellsOf e))) (hb-l) (m'-l)) w:=by
     intro a cap hcap;cases hq:mx with
     | none =>
      have hm2:xG cap (none:Option PV)=some cap:=rfl;have:=Wq (P:=P) true hl hh (hq ▸ hm2:xG cap mx=some cap) c1 DB (Af _) c5 rlo rhi rmx;refine⟨cap,by omega,?_⟩;simp only[Instr.sliceAt,Sem.run_bind,run_underlying ht,Aj,Instr.slice,this,sz,Sem.run_pure]
     | some pm =>
      have hm2:=Zir cap hm (by rw[hq];simp);have:=Wq (P:=P) (n:=n) (cap:=cap) true hl hh hm2 c1 c2 DB c5 rlo rhi rmx;refine⟨m,by omega,?_⟩;simp only[Instr.sliceAt,Sem.run_bind,run_underlying ht,Aj,Instr.slice,this,sz,Sem.run_pure]
    cases hu with
    | lst0 =>
     obtain⟨m',hm',hr⟩:=main _ _ (Ca _);have:hb-l=0:=DB
     refine⟨_,hr,?_⟩;rw[this];simp only[List.drop_nil,Dd];exact .lst0
    | lst1 hn hmm hbl hM hs h1 hr =>
     rename_i cap b o c ee fz;obtain⟨m',hm',hrr⟩:=main _ _ hn;refine⟨_,hrr,?_⟩;obtain⟨g1,g2,g3⟩:=Xa (k:=l*P.cellsOf e) hs h1 hr
     by_cases hml:m'=l
     ·have:hb-l=0:=DB
      rw[this];simp only[CI,CZ];exact .lst0
     ·rw[if_neg hml];simp only[A5,Addr.add_plain];refine .lst1 DB DB hbl hM (λhne=>?_) (λi v hi hv=>?_) (λi q v hq hv=>?_)
      ·have:=g1 (by intro e0;rw[e0]at hne;simp at hne)
       grind
      ·simp only[As]at hi;exact g2 i v DB hv
      ·by_cases hlt:i<(hb-l)*P.cellsOf e
       ·rw[AI hlt]at hq;exact g3 i q v hq hv
       ·rw[Ak DF]at hq;cases hq
   ·cases h
  ·cases h
 ·rename_i o ver sz off n;split at h
  ·rename_i e hb ht hh;split at h
   ·rename_i hc;obtain⟨c1,c2,c3,rfl,c5⟩:=hc;cases h;have hmx:mx=none:=by cases mx with | none=>rfl | some _=>cases c5
    cases hu with
    | sl h1 h2 h3 =>
     obtain⟨a,cap,rfl,k1,k2,k3,k4⟩:=h1;have hm2:xG cap mx=some cap:=by rw[hmx];rfl
     have hsb:=Wq (P:=P) (n:=n) (cap:=cap) true hl hh hm2 c1 DB (Af _) (by rw[hmx];simp) rlo rhi rmx;refine⟨.slice (if cap=l then a else a.map (·.add (l*P.cellsOf e))) (hb-l) (cap-l),?_,?_⟩
     ·simp only[Instr.sliceAt,Sem.run_bind,run_underlying ht,Aj,Instr.slice,hsb,wS c3,Sem.run_pure]
     ·have e1:hb-l<=cap-l:=DB
      have e2:hb-l<=jT:=AB (Nat.sub_le _ _) (AB c2 k2);have e3:cap-l<=maxLen:=AB (Nat.sub_le _ _) k3;clear hsb hm2;refine .sl ⟨_,_,rfl,e1,e2,e3,λhne=>?_⟩ h2 λv0 hv0=>?_
      ·grind[Addr.add_plain]
      ·obtain⟨g1,g2⟩:=h3 v0 hv0;refine⟨g1,λhq=>?_⟩;rcases g2 hq with ⟨q1,q2,q3,q4⟩ | ⟨b,k',a',cap',q1,q2,q3,q4⟩
       ·simp_all
       ·cases q2;refine .inr ⟨b,k',_,_,q1,rfl,λhoff=>?_,λhne=>?_⟩
        ·have hl0:l=0:=by
          rcases BT l with h | h
          ·exact h
          ·have:0<l*P.cellsOf e:=Nat.mul_pos h (BU c3);omega
         subst hl0;obtain⟨z1,z2⟩:=q3 DB;subst z1;refine⟨?_,by simpa using z2⟩
         by_cases hc0:cap=0
         ·simp[hc0]
         ·simp[hc0,Addr.add_plain]
        grind[Addr.add_plain]
   ·cases h
  ·cases h
 ·rename_i s;split at h
  ·rename_i hb ht hh;split at h
   ·rename_i hc;obtain⟨c1,c2,c5⟩:=hc;cases h;have hmx:mx=none:=by cases mx with | none=>rfl | some _=>cases c5
    have humx:umx=none:=rmx.2 hmx;subst humx;cases hu;have hm2:xG s.size mx=some s.size:=by rw[hmx];rfl
    have hsb:=Wq (P:=P) (n:=s.size) (cap:=s.size) (umx:=none) false hl hh hm2 c1 c2 (Af _) (by rw[hmx];simp) rlo rhi rmx;refine⟨_,?_,.sc _⟩;simp[Instr.sliceAt,run_underlying ht,Instr.slice,hsb]
   ·cases h
  ·cases h
 ·cases h
open Go
def Wr(P:Program)(t:TypeId)(x:PV):Option PV :=
 match P.underlying t with
 | some (.slice _) =>
  match x with
  | .lst n _=>some (.sc (.int .i64 n))
  | .nl _ _ n _=>some (.sc (.int .i64 n))
  | .sl _ _ _ _ n=>some (.sc (.int .i64 n))
  | .sc (.slice _ n _)=>some (.sc (.int .i64 n))
  | _=>none
 | some .string =>
  match x with
  | .sc (.string s)=>some (.sc (.int .i64 s.size))
  | _=>none
 | _=>none
def Ws(op:UnOp)(x:PV):Option PV :=
 match x with
 | .sc (.bool b)=>match op with | .not=>some (.sc (.bool (!b))) | _=>none
 | .sc (.int k n)=>match op with | .neg=>some (.sc (.int k (k.wrap (0-n)))) | _=>none
 | _=>none
def Wt(P:Program)(src dst:TypeId)(x:PV):Option PV :=
 match P.underlying src with
 | none=>none
 | some _ =>
  match x with
  | .sc (.int _ n)=>match P.underlying dst with | some (.int k)=>some (.sc (.int k (k.wrap n))) | _=>none
  | .sc (.string s)=>match P.underlying dst with | some .string=>some (.sc (.string s)) | _=>none
  | _=>none
def Wu(P:Program)(t:TypeId)(x i:PV):Option PV :=
 match i with
 | .sc (.int _ n) =>
  match P.underlying t with
  | some (.array len e) =>
   match x with
   | .agg cs=>if (0<=n/\n<(len:Int))/\P.cellsOf e≠0/\(P.underlying e).isSome=true then uB P e (cs.drop (n.toNat * P.cellsOf e)) else none
   | _=>none
  | some .string =>
   match x with
   | .sc (.string s)=>if 0<=n then (s[n.toNat]?).map λb=>.sc (.int .u8 b.toNat) else none
   | _=>none
  | _=>none
 | _=>none
def Wv(P:Program)(t:TypeId)(x:PV)(f:Nat):Option PV :=
 match P.underlying t with
 | some (.struct fs) =>
  match fs[f]? with
  | some fd=>if (P.underlying fd.type).isSome=true then (match x with | .agg cs=>uB P fd.type (cs.drop fd.offset) | _=>none) else none
  | none=>none
 | _=>none
def Zai(x:PV):Option PV :=
 match x with
 | .ptr _ _ _=>some x
 | .ip _=>some x
 | .fn (.func _) _ _=>some x
 | _=>none
def Je(f:Int->Int->Int)(x y:PV):Option PV :=
 match x,y with
 | .sc (.int k a),.sc (.int _ b)=>some (.sc (.int k (f a b)))
 | _,_=>none
def xh(x y:Int):Int:=if y<x then y else x
def q8(x y:Int):Int:=if x<y then y else x
def Ww(P:Program)(F:Nat->PV)(c:Call):Option PV :=
 match c.callee with
 | .builtin .len=>match c.args.toList,c.argTypes.toList with | [x],[t]=>Wr P t (ev F x) | _,_=>none
 | .builtin .min=>match c.args.toList with | [x,y]=>Je xh (ev F x) (ev F y) | _=>none
 | .builtin .max=>match c.args.toList with | [x,y]=>Je q8 (ev F x) (ev F y) | _=>none
 | _=>none
def Zo(P:Program):List Field->List PV->List PV->Option Bool
 | [],[],[]=>some true
 | f :: fs,.sc (.int k a) :: cs,.sc (.int k' b) :: ds =>
  match P.underlying f.type with
  | some (.int _)=>if k=k' then (Zo P fs cs ds).map (a == b && ·) else none
  | _=>none
 | f :: fs,.sc (.bool a) :: cs,.sc (.bool b) :: ds =>
  match P.underlying f.type with
  | some .bool=>(Zo P fs cs ds).map (a == b && ·)
  | _=>none
 | _,_,_=>none
def Wx:Nat->List Field->Bool
 | _,[]=>true
 | i, f :: fs => f.name != "_" && f.offset == i && Wx (i + 1) fs
def Wy(P:Program)(t:TypeId):Bool:=!P.stoodInHeld t && !P.eqGuardType P.depth t && Wx 0 (P.fieldsOf t).toList
def Wz(P:Program)(op:BinOp)(t:TypeId)(x y:PV):Option PV :=
 match x,y with
 | .agg cs,.agg ds =>
  match P.underlying t with
  | some (.struct fs) =>
   if Wy P t=true then
    match Zo P fs.toList cs ds,op with
    | some b,.eql=>some (.sc (.bool b))
    | some b,.neq=>some (.sc (.bool (!b)))
    | _,_=>none
   else none
  | _=>none
 | _,_=>none
theorem Zdg{P:Program}{C:Ctx}{S:Store}{w:World}{CS DS:List PV}{xs ys:Array Value}(hx:Rel C S w (.agg CS) (.agg xs))(hy:Rel C S w (.agg DS) (.agg ys))(d:Nat):
  ∀(fs:List Field) (i:Nat) (b:Bool),Wx i fs=true->Zo P fs (CS.drop i) (DS.drop i)=some b->(Op.eqFields (d+1) xs ys fs).run P w=.ok b w
 | [],i,b,_,h=>by
  generalize CS.drop i=cs at h;generalize DS.drop i=ds at h;cases cs with
  | nil =>
   cases ds<;>simp_all[Zo,Op.eqFields]
  | cons=>simp_all[Zo]
 | f :: fs,i,b,hok,h=>by
  simp only[Wx,Ao,bne_iff_ne,beq_iff_eq]at hok;obtain⟨⟨hn,rfl⟩,hok⟩:=hok;have step:∀(p q:PV) (ps qs:List PV),CS.drop f.offset=p :: ps->DS.drop f.offset=q :: qs->CS.drop (f.offset+1)=ps/\DS.drop (f.offset+1)=qs:=by
   intro p q ps qs h1 h2;have e1:CS.drop (f.offset+1)=(CS.drop f.offset).drop 1:=by rw[List.drop_drop]
   have e2:DS.drop (f.offset+1)=(DS.drop f.offset).drop 1:=by rw[List.drop_drop]
   rw[e1,e2,h1,h2];exact⟨rfl,rfl⟩
  have fin:∀(e:TypeDesc) (p q:PV) (ps qs:List PV) (u v:Value) (c b':Bool),P.underlying f.type=some e->Jd (some e)=false->CS.drop f.offset=p :: ps->DS.drop f.offset=q :: qs->(∀r,Rel C S w p r->r=u)->(∀r,Rel C S w q r->r=v) ->
    (Op.equalIn (d+1) f.type u v).run P w=.ok c w->Zo P fs ps qs=some b'->b=(c && b')->(Op.eqFields (d+1) xs ys (f :: fs)).run P w=.ok b w:=by
   intro e p q ps qs u v c b' ht hag h1 h2 hu hv hrun hrest hb;cases hx with
   | agg lx ox rx =>
    cases hy with
    | agg ly oy ry =>
     obtain⟨r1,k1,k2⟩:=Wn (P:=P) (w:=w) (t:=f.type) ht lx ox rx (o:=f.offset) (p:=p) (by grind[uB]);obtain⟨r2,k3,k4⟩:=Wn (P:=P) (w:=w) (t:=f.type) ht ly oy ry (o:=f.offset) (p:=q) (by grind[uB]);cases hu r1 k2;cases hv r2 k4;obtain⟨g1,g2⟩:=step _ _ _ _ h1 h2;have ih:=Zdg (.agg lx ox rx) (.agg ly oy ry) d fs (f.offset+1) b' hok (by rw[g1,g2];exact hrest);unfold Op.eqFields;rw[if_pos hn];simp only[Sem.run_bind,k1,k3,Aj,hrun];cases c
     ·simp[hb]
     ·simp[hb,ih]
  unfold Zo at h;split at h
  ·simp_all
  ·rename_i k a ps k' c qs h1 h2 h3;cases h1;split at h
   ·rename_i k2 ht;split at h
    ·rename_i hk;subst hk;obtain⟨b',hb',rfl⟩:=Am.1 h;exact fin _ _ _ _ _ _ _ _ _ ht rfl h2 h3 (λr hr=>by cases hr;rfl) (λr hr=>by cases hr;rfl) (run_equalIn_int w d f.type k k2 a c ht) hb' rfl
    ·cases h
   ·cases h
  ·rename_i a ps c qs h1 h2 h3;cases h1;split at h
   ·rename_i ht;obtain⟨b',hb',rfl⟩:=Am.1 h;exact fin _ _ _ _ _ _ _ _ _ ht rfl h2 h3 (λr hr=>by cases hr;rfl) (λr hr=>by cases hr;rfl) (run_equalIn_bool' w d f.type a c ht) hb' rfl
   ·cases h
  ·cases h
theorem Zit{P:Program}{C:Ctx}{S:Store}{w:World}{op:BinOp}{t:TypeId}{x y:PV}{p:PV}{u v:Value}(X Y:Operand)(h:Wz P op t x y=some p)
  (hu:Rel C S w x u) (hv:Rel C S w y v):∃r,(do eqGuard op t X Y u v;binOp op t u v:Sem Value).run P w=.ok r w/\Rel C S w p r:=by
 unfold Wz at h;split at h
 ·rename_i cs ds;split at h
  ·rename_i fs ht;split at h
   ·rename_i hok;unfold Wy at hok;simp only[Ao,Cg]at hok;obtain⟨⟨h1,h2⟩,h3⟩:=hok;have hf:P.fieldsOf t=fs:=by unfold Program.fieldsOf;rw[ht]
    have ht':P.underlying t=some (.struct (P.fieldsOf t)):=by rw[hf];exact ht
    have hu0:=hu;have hv0:=hv;cases hu with
    | agg a1 a2 a3 =>
     cases hv with
     | agg b1 b2 b3 =>
      rename_i xs ys;have key:∀b,Zo P fs.toList cs ds=some b->(Op.equalIn 10000 t (.agg xs) (.agg ys)).run P w=.ok b w:=by
       intro b hb
       show (Op.equalIn (9999+1) _ _ _).run P w=_
       rw[run_equalIn_struct w 9999 t xs ys ht' h1,hf]
       show (Op.eqFields (9998+1) xs ys fs.toList).run P w=_
       rw[hf]at h3;exact Zdg hu0 hv0 9998 fs.toList 0 b h3 (by simpa using hb)
      split at h
      ·rename_i b hb;cases h;exact⟨_,by simp_all[run_eqGuard_agg,run_eql_struct],.sc _⟩
      ·rename_i b hb;cases h;exact⟨_,by simp_all[run_eqGuard_agg,run_neq_struct],.sc _⟩
      ·cases h
   ·cases h
  ·cases h
 ·cases h
def wT(P:Program)(F:Nat->PV)(o:Oper):Option PV :=
 match o.op with
 | .move x=>some (ev F x)
 | .assign x=>some (ev F x)
 | .pick c a b=>match ev F c with | .sc (.bool t)=>some (bif t then ev F a else ev F b) | _=>none
 | .build t parts=>Wo P t (parts.toList.map λx=>(x.1,ev F x.2))
 | .buildSlice t len parts =>
  match P.underlying t with
  | some (.slice e)=>(Z5 P e len (parts.toList.map λx=>(x.1,ev F x.2))).map (.lst len)
  | _=>none
 | .load t x=>match ev F x with | .ip cs=>if (P.underlying t).isSome=true then uB P t cs else none | _=>none
 | .nilCheck x=>Zai (ev F x)
 | .binOp op t x y _ =>
  match Wj P op t (ev F x) (ev F y) with
  | some p=>some p
  | none=>Wz P op t (ev F x) (ev F y)
 | .unOp op _ x=>Ws op (ev F x)
 | .convert src dst x=>Wt P src dst (ev F x)
 | .makeInterface t x=>match P.underlying t with | some (.interface _)=>none | some _=>some (.ifc t (ev F x)) | none=>none
 | .makeFunc fn first cap=>some (.fn fn (first.toList.map (ev F)) (cap.toList.map (ev F)))
 | .slice t x lo hi mx=>Wp P t (ev F x) (lo.map (ev F)) (hi.map (ev F)) (mx.map (ev F))
 | .fieldAddr t x f=>Wl P t (ev F x) f
 | .field t x f=>Wv P t (ev F x) f
 | .indexAddr t x i=>Qm P t (ev F x) (ev F i)
 | .index t x i=>Wu P t (ev F x) (ev F i)
 | .extract t i=>match ev F t with | .tup ps=>ps[i]? | _=>none
 | .call c=>Ww P F c
 | _=>none
section
variable {P:Program} {C:Ctx} {S:Store} {w:World} {F:Nat->PV} {ρ:Operand->Value} {p:PV}
theorem Ziu{b:Bool}{x y:PV}{u v:Value}(h1:Rel C S w x u)(h2:Rel C S w y v):Rel C S w (bif b then x else y) (if b=true then u else v):=DI
theorem Ziv{t ty:TypeId}{x:PV}{u:Value}(h:Wr P t x=some p)(hu:Rel C S w x u):∃r,(Builtin.len_ #[t] ty #[u]).run P w=.ok r w/\Rel C S w p r:=by
 unfold Wr at h;split at h
 ·rename_i e ht;split at h
  ·cases h;cases hu<;>exact⟨_,by simp[Builtin.len_,run_underlying ht];rfl,.sc _⟩
  ·cases h;cases hu<;>exact⟨_,by simp[Builtin.len_,run_underlying ht];rfl,.sc _⟩
  ·cases h;cases hu with | sl h1=>obtain⟨a,c,rfl,_⟩:=h1;exact⟨_,by simp[Builtin.len_,run_underlying ht];rfl,.sc _⟩
  ·cases h;cases hu;exact⟨_,by simp[Builtin.len_,run_underlying ht];rfl,.sc _⟩
  ·cases h
 ·rename_i ht;split at h
  ·cases h;cases hu;exact⟨_,by simp[Builtin.len_,run_underlying ht];rfl,.sc _⟩
  ·cases h
 ·cases h
theorem Ziw{op:UnOp}{x:PV}{u:Value}(h:Ws op x=some p)(hu:Rel C S w x u):∃r,(Op.unary op u).run P w=.ok r w/\Rel C S w p r:=by
 unfold Ws at h;split at h
 ·cases hu;split at h
  ·cases h;exact⟨_,by simp[Op.unary],.sc _⟩
  ·cases h
 ·cases hu;split at h
  ·cases h;exact⟨_,by simp[Op.unary,Op.intArith],.sc _⟩
  ·cases h
 ·cases h
theorem Zix{src dst:TypeId}{x:PV}{u:Value}(h:Wt P src dst x=some p)(hu:Rel C S w x u):∃r,(convert src dst u).run P w=.ok r w/\Rel C S w p r:=by
 unfold Wt at h;split at h
 ·cases h
 ·rename_i d hs;split at h
  ·cases hu;split at h
   ·rename_i k hd;cases h;exact⟨_,by simp_all[convert,run_underlying,Conv.intToInt],.sc _⟩
   ·cases h
  ·cases hu;split at h
   ·rename_i hd;cases h;refine⟨_,?_,.sc _⟩
    simp_all[convert,run_underlying]
   ·cases h
  ·cases h
theorem Ziy{t:TypeId}{x i:PV}{u v:Value}(h:Wu P t x i=some p)(hu:Rel C S w x u)(hv:Rel C S w i v):∃r,(Instr.index t u v).run P w=.ok r w/\Rel C S w p r:=by
 unfold Wu at h;split at h
 ·cases hv;rename_i k n;split at h
  ·rename_i len e ht;split at h
   ·split at h
    ·rename_i hc;obtain⟨c1,c2,c3⟩:=hc;cases hd:P.underlying e with
     | none=>simp_all
     | some d =>
      cases hu with
      | agg hl h1 h2 =>
       obtain⟨r,hr,hrel⟩:=Wn hd hl h1 h2 h
       simp_all[Instr.index,asIntOf,run_underlying,wS]
    ·cases h
   ·cases h
  ·rename_i ht;split at h
   ·cases hu;split at h
    ·rename_i hn;obtain⟨b,hb,rfl⟩:=Am.1 h;exact⟨_,by simp_all[Instr.index,asIntOf,run_underlying],.sc _⟩
    ·cases h
   ·cases h
  ·cases h
 ·cases h
theorem Ziz{t:TypeId}{x:PV}{f:Nat}{u:Value}(h:Wv P t x f=some p)(hu:Rel C S w x u):∃r,(Instr.field t u f).run P w=.ok r w/\Rel C S w p r:=by
 unfold Wv at h;split at h
 ·rename_i fs ht;split at h
  ·rename_i fd hf;split at h
   ·rename_i hd0;split at h
    ·cases hd:P.underlying fd.type with
     | none=>simp_all
     | some d =>
      cases hu with
      | agg hl h1 h2 =>
       obtain⟨r,hr,hrel⟩:=Wn hd hl h1 h2 h
       simp_all[Instr.field,run_underlying,asAgg]
    ·cases h
   ·cases h
  ·cases h
 ·cases h
theorem Xb{l:List Operand}(hρ:∀x,Rel C S w (ev F x) (ρ x)):(l.map (ev F)).length=(l.toArray.map ρ).size/\∀(i:Nat) (c:PV) (v:Value),(l.map (ev F))[i]?=some c->(l.toArray.map ρ)[i]?=some v->Rel C S w c v:=DI
theorem Zaj{x:Option Operand}(hρ:∀x,Rel C S w (ev F x) (ρ x)):(∀p,x.map (ev F)=some p->∃v,x.map ρ=some v/\Rel C S w p v)/\(x.map (ev F)=none->x.map ρ=none):=by cases x<;>simp_all
theorem Zdh{x y:PV}{u v:Value}(hu:Rel C S w x u)(hv:Rel C S w y v):
  (Je xh x y=some p->∃r,(Builtin.min2 u v).run P w=.ok r w/\Rel C S w p r)/\(Je q8 x y=some p->∃r,(Builtin.max2 u v).run P w=.ok r w/\Rel C S w p r):=by
 constructor <;>
 ·intro h;unfold Je at h;split at h
  ·cases h;cases hu;cases hv;exact⟨_,rfl,.sc _⟩
  ·cases h
theorem ZiA{o:Oper}(h:wT P F o=some p)(hS:Sim C S w)(hρ:∀x,Rel C S w (ev F x) (ρ x)):
  ∃v w',(execOp ρ o).run P w=.ok (.value v) w'/\Rel C S w' p v/\Sim C S w'/\Step C S w C S w':=by
 have fin:(∃v,(execOp ρ o).run P w=.ok (.value v) w/\Rel C S w p v)->∃v w',(execOp ρ o).run P w=.ok (.value v) w'/\Rel C S w' p v/\Sim C S w'/\Step C S w C S w' :=
  λ⟨v,h1,h2⟩=>⟨v,w,h1,h2,hS,.refl _ _ _⟩
 unfold wT at h;unfold execOp at fin ⊢;cases ho:o.op<;>simp only[ho]at h fin ⊢<;>try (cases h;done)
 case move x=>cases h;simp_all
 case assign x=>cases h;simp_all
 case pick c a b =>
  split at h
  ·rename_i t hc;cases h;have:=hρ c;rw[hc]at this;generalize ρ c=v at this fin ⊢;cases this
   simp_all[asBool,Ziu]
  ·cases h
 case build t parts =>
  obtain⟨r,hr,hrel⟩:=Ziq (ev F) ρ hρ h;refine fin ⟨r,?_,hrel⟩;have e:(parts.map λ(x:Nat × Operand)=>(x.1,ρ x.2))=(parts.toList.map λx=>(x.1,ρ x.2)).toArray:=by apply BC.1;simp
  simp_all
 case buildSlice t len parts =>
  split at h
  ·rename_i e ht;obtain⟨cs,hl,rfl⟩:=Am.1 h;obtain⟨vs,hr,hrel,hsz⟩:=Zdf ht (ev F) ρ hρ hl;have eq:(parts.map λ(x:Nat × Operand)=>(x.1,ρ x.2))=(parts.toList.map λx=>(x.1,ρ x.2)).toArray:=by apply BC.1;simp
   obtain⟨g1,g2,g3⟩:=hS.alloc (.cells vs e);refine⟨_,_,by simp only[Sem.run_bind];rw[eq,hr];rfl,?_,g1,g2⟩;have hlen:len<=jT:=by
    unfold Z5 at hl;split at hl
    ·cases hl
    ·split at hl
     ·rename_i hc;obtain⟨_,_,c3,c4⟩:=hc;have:len*1<=len*P.cellsOf e:=Nat.mul_le_mul_left _ (BU c3);unfold jT;omega
     ·cases hl
   obtain⟨r1,r2,r3⟩:=hrel.mono g2;exact .lst1 (Af _) hlen (Z3 _ _) g3 (λ_=>by omega) (λi v _ hv=>r2 i v (by simpa using hv)) (λi q v hq hv=>r3 i q v hq (by simpa using hv))
  ·cases h
 case load t x =>
  split at h
  ·rename_i cs hx;split at h
   ·rename_i hd0;cases hd:P.underlying t with
    | none=>simp_all
    | some d =>
     have:=hρ x;rw[hx]at this;generalize ρ x=v at this fin ⊢;cases this with
     | ip hb hM hs h1 hr =>
      obtain⟨r,hrr,hrel⟩:=Zae hd hb hs h1 hr h
      simp_all[Instr.loadAt,Instr.sureAddr]
   ·cases h
  ·cases h
 case nilCheck x =>
  have hx:=hρ x;unfold Zai at h;generalize ρ x=v at hx fin ⊢;split at h
  ·rename_i he;cases h;rw[he]at hx fin ⊢;cases hx with
   | ptr h1 h2 h3=>obtain⟨a,rfl⟩:=h1;exact fin ⟨_,rfl,.ptr ⟨_,rfl⟩ h2 h3⟩
  ·rename_i he;cases h;rw[he]at hx fin ⊢;cases hx with
   | ip a b c d e=>exact fin ⟨_,rfl,.ip a b c d e⟩
  ·rename_i he;cases h;rw[he]at hx fin ⊢;cases hx with
   | fn a b c d=>exact fin ⟨_,rfl,.fn a b c d⟩
  ·cases h
 case binOp op t x y ty =>
  split at h
  ·rename_i p' hp;cases h;obtain⟨r,hr,hrel⟩:=Zil (w:=w) x y hp (hρ x) (hρ y);refine fin ⟨r,?_,hrel⟩;rw[Sem.run_bind,hr];rfl
  ·obtain⟨r,hr,hrel⟩:=Zit (w:=w) x y h (hρ x) (hρ y);refine fin ⟨r,?_,hrel⟩;rw[Sem.run_bind,hr];rfl
 case unOp op t x =>
  obtain⟨r,hr,hrel⟩:=Ziw (P:=P) h (hρ x)
  simp_all
 case convert src dst x =>
  obtain⟨r,hr,hrel⟩:=Zix h (hρ x)
  simp_all
 case makeInterface t x =>
  split at h
  ·cases h
  ·rename_i d hne hd;cases h;refine fin ⟨_,?_,.ifc (hρ x)⟩
   simp_all[Instr.makeInterface,run_underlying]
  ·cases h
 case makeFunc fn first cap =>
  cases h;have h1:=Xb (l:=first.toList) hρ;have h2:=Xb (l:=cap.toList) hρ;simp only[Array.toArray_toList]at h1 h2;exact fin ⟨_,rfl,.fn h1.1 h2.1 h1.2 h2.2⟩
 case slice t x lo hi mx =>
  obtain⟨r,hr,hrel⟩:=Zis h (hρ x) (Zaj hρ) (Zaj hρ) (Zaj hρ)
  simp_all
 case fieldAddr t x f =>
  obtain⟨r,hr,hrel⟩:=Zin h (hρ x)
  simp_all
 case field t x f =>
  obtain⟨r,hr,hrel⟩:=Ziz h (hρ x)
  simp_all
 case indexAddr t x i =>
  obtain⟨r,hr,hrel⟩:=Zim h (hρ x) (hρ i)
  simp_all
 case index t x i =>
  obtain⟨r,hr,hrel⟩:=Ziy h (hρ x) (hρ i)
  simp_all
 case extract t i =>
  split at h
  ·rename_i ps hx;have:=hρ t;rw[hx]at this;generalize ρ t=v at this fin ⊢;cases this with
   | tup hl hr =>
    rename_i vs;obtain⟨hi,_⟩:=Ac.1 h;have hvi:vs[i]?=some (vs[i]' DB):=DC
    exact fin ⟨_,by simp[Instr.extract,hvi],hr i p _ h hvi⟩
  ·cases h
 case call c =>
  unfold Ww at h;split at h
  ·rename_i hc;split at h
   ·rename_i x t hx ht;have ex:c.args=#[x]:=by apply BC.1;simpa using hx
    have et:c.argTypes=#[t]:=by apply BC.1;simpa using ht
    obtain⟨r,hr,hrel⟩:=Ziv (ty:=o.type) h (hρ x);refine fin ⟨r,?_,hrel⟩
    grind[resolve,invoke,builtin,Sem.run_bind,Sem.run_pure,Result.andThen_ok]
   ·cases h
  ·rename_i hc;split at h
   ·rename_i x y hx;have ex:c.args=#[x,y]:=by apply BC.1;simpa using hx
    obtain⟨r,hr,hrel⟩:=(Zdh (P:=P) (hρ x) (hρ y)).1 h;refine fin ⟨r,?_,hrel⟩;simp only[resolve,hc,invoke,builtin,ex,Sem.run_bind,Sem.run_pure,Aj,Df,AD,Bk,Builtin.min_,List.foldlM,hr]
   ·cases h
  ·rename_i hc;split at h
   ·rename_i x y hx;have ex:c.args=#[x,y]:=by apply BC.1;simpa using hx
    obtain⟨r,hr,hrel⟩:=(Zdh (P:=P) (hρ x) (hρ y)).2 h;refine fin ⟨r,?_,hrel⟩;simp only[resolve,hc,invoke,builtin,ex,Sem.run_bind,Sem.run_pure,Aj,Df,AD,Bk,Builtin.max_,List.foldlM,hr]
   ·cases h
  ·cases h
end
open Go
structure Rd where
 round:Option Nat
 V:Ctx->Store->World->Prop
 keep:∀{C C':Ctx} {S S':Store} {w w':World},Step C S w C' S' w'->V C S w->V C' S' w'
def wU:Rd:=⟨none,λ_ _ _=>True,λ_ _=>trivial⟩
def Fe(r:Rd):Fence:={ Fence.wide with round:=r.round }
structure St (r:Rd) (C:Ctx) (S:Store) (w:World) (N:Nat) (F:Nat->PV) (a:Act):Prop where
 sim:Sim C S w
 size:a.tmps.size=N
 fr:∀i,Rel C S w (F i) (a.tmps.getD i undef)
 v:r.V C S w
theorem St.ev{r:Rd}{C:Ctx}{S:Store}{w:World}{N:Nat}{F:Nat->PV}{a:Act}(h:St r C S w N F a)(x:Operand):Rel C S w (ev F x) (a.eval x):=by
 cases x with
 | tmp t=>exact h.fr t
 | const v=>exact Wg v
 | global g=>exact .sc _
 | func f=>exact .fn rfl rfl DC DC
theorem ZiB(a:Act)(d:Nat)(v:Value)(hd:d<a.tmps.size)(i:Nat):(a.put (some d) v).tmps.getD i undef=if i=d then v else a.tmps.getD i undef:=by
 simp only[Act.put,AV]
 grind
theorem St.put{r:Rd}{C C':Ctx}{S S':Store}{w w':World}{N:Nat}{F:Nat->PV}{a:Act}(h:St r C S w N F a)(st:Step C S w C' S' w')(hs:Sim C' S' w'){d:Option Nat}(hd:∀x,d=some x->x<N){p:PV}{v:Value}
  (hr:Rel C' S' w' p v):St r C' S' w' N (z6 F d p) (a.put d v):=by
 cases d with
 | none=>exact⟨hs,h.size,λi=>(h.fr i).mono st,r.keep st h.v⟩
 | some d =>
  have hlt:d<a.tmps.size:=by rw[h.size];exact hd d rfl
  refine⟨hs,by simp[Act.put,h.size],λi=>?_,r.keep st h.v⟩;rw[ZiB a d v hlt];simp only[z6,xV];split
  ·exact hr
  ·exact(h.fr i).mono st
def gd(ops:Array Oper)(F:Nat->PV)(o:Oper):Option Bool :=
 match o.guard with
 | none=>some true
 | some (j,want) =>
  match (ops[j]?).bind (·.dst) with
  | none=>some false
  | some d=>match F d with
   | .sc v=>match v with
    | .bool b=>some (b == want)
    | _=>some false
   | _=>none
theorem YI{r:Rd}{ops:Array Oper}{C:Ctx}{S:Store}{w:World}{N:Nat}{F:Nat->PV}{a:Act}{o:Oper}{b:Bool}(h:St r C S w N F a)(hg:gd ops F o=some b):Region.wanted o (yielded ops a.tmps)=b:=by
 unfold gd at hg;unfold Region.wanted;split at hg
 ·simp_all
 ·rename_i j want hn;rw[hn];simp only;split at hg
  ·grind[yielded]
  ·rename_i d hd;have hr:=h.fr d;split at hg
   ·rename_i v hv;rw[hv]at hr;generalize hq:a.tmps.getD d undef=u at hr;cases hr;rw[AV]at hq;split at hg
    ·rename_i b';cases hg;cases hx:a.tmps[d]? with
     | none=>rw[hx]at hq;cases hq
     | some y =>
      rw[hx]at hq;simp only[Option.getD_some]at hq;subst hq;simp only[yielded,hd,Dg,hx];cases b'<;>cases want<;>rfl
    grind[yielded]
   ·cases hg
def uU(P:Program)(t:TypeId)(S:Store)(x:PV):Option PV :=
 match x with
 | .ptr o ver off =>
  match S o with
  | .cells v _ cs=>if v=ver/\(P.underlying t).isSome=true then uB P t (cs.drop off) else none
  | _=>none
 | .ip cs=>if (P.underlying t).isSome=true then uB P t cs else none
 | _=>none
theorem Zdi{P:Program}{C:Ctx}{S:Store}{w:World}{t:TypeId}{x p:PV}{u:Value}(h:uU P t S x=some p)(hS:Sim C S w)(hu:Rel C S w x u):∃r,(Instr.loadAt t u).run P w=.ok r w/\Rel C S w p r:=by
 unfold uU at h;split at h
 ·rename_i o ver off;split at h
  ·rename_i v e cs hs;split at h
   ·rename_i hc;obtain⟨rfl,hd0⟩:=hc;cases hd:P.underlying t with
    | none=>simp_all
    | some d =>
     cases hu with
     | ptr h1 h2 h3 =>
      obtain⟨b,k,hl,rfl⟩:=(h3 v (by rw[hs];rfl)).2 rfl;rcases hS.cells o v e cs hs with ⟨hn,_⟩ | ⟨b',k',c,g1,g2,g3,g4,g5,g6⟩
      ·simp_all
      ·rw[g1]at hl;cases hl;obtain⟨q1,q2,q3⟩:=Xa (k:=off) (o:=0) (c:=c) (cs:=cs) (λ_=>by omega) (λi v hi hv=>g5 i v hi (by simpa using hv)) (λi q v hq hv=>g6 i q v hq (by simpa using hv));rw[AQ]at q1 q2 q3;obtain⟨r,hr,hrel⟩:=Zae (P:=P) (b:=b) hd g2 q1 q2 q3 h
       simp_all[Instr.loadAt,Instr.sureAddr]
   ·cases h
  ·cases h
 ·split at h
  ·rename_i hd0;cases hd:P.underlying t with
   | none=>simp_all
   | some d =>
    cases hu with
    | ip hb hM hs h1 hr =>
     obtain⟨r,hrr,hrel⟩:=Zae hd hb hs h1 hr h
     simp_all[Instr.loadAt,Instr.sureAddr]
  ·cases h
 ·cases h
def yd(cs:List PV)(off:Nat)(ds:List PV):List PV:=cs.take off++ds++cs.drop (off+ds.length)
def Jf(P:Program)(t:TypeId)(S:Store)(x y:PV):Option Store :=
 match x with
 | .ptr o ver off =>
  match S o with
  | .cells v e cs=>if v=ver/\y.cells.length=P.cellsOf t/\P.cellsOf t≠0/\off+y.cells.length<=cs.length/\y.fit=true then some (S.set o (.cells v e (yd cs off y.cells))) else none
  | _=>none
 | _=>none
theorem ZiC{P:Program}{C:Ctx}{S S':Store}{w:World}{t:TypeId}{x y:PV}{u v:Value}(h:Jf P t S x y=some S')(hS:Sim C S w)(hu:Rel C S w x u)(hv:Rel C S w y v):
  ∃w' C',(Instr.storeAt t u v).run P w=.ok () w'/\Sim C' S' w'/\Step C S w C' S' w':=by
 unfold Jf at h;split at h
 ·rename_i o ver off;split at h
  ·rename_i vv e cs hs;split at h
   ·rename_i hc;obtain⟨rfl,c1,c2,c3,c4⟩:=hc;cases h;cases hu with
    | ptr h1 h2 h3 =>
     obtain⟨b,k,hl,rfl⟩:=(h3 vv (by rw[hs];rfl)).2 rfl;rcases hS.cells o vv e cs hs with ⟨hn,_⟩ | ⟨b',k',c,g1,g2,g3,g4,g5,g6⟩
     ·simp_all
     ·rw[g1]at hl;cases hl;obtain⟨r1,r2,r3⟩:=hv.cells' c4;have hone:∀z∈v.cells.toList,z.oneCell'=true:=by
       intro z hz;obtain⟨i,hi⟩:=B3 hz;exact r2 i z (by rw[<-Array.getElem?_toList];exact hi)
      have hfit:off+0+v.cells.toList.length<=c.size:=by simp only[Array.length_toList];omega
      have hrun:=run_storeCells_at P b off e v.cells.toList 0 c w g2 hfit hone;have hlen:v.cells.toList.length=y.cells.length:=by simp[r1]
      simp only[Bs]at hrun;generalize hw':w.setRow b (c.toList.take off++v.cells.toList++c.toList.drop (off+v.cells.toList.length)).toArray=w' at hrun;have hheap:w'.heap[b]?=some (.cells (c.toList.take off++v.cells.toList++c.toList.drop (off+v.cells.toList.length)).toArray e (0,0)):=by
       rw[<-hw'];exact setRow_heap w b c _ e _ g2
      have hgr:w.grownBy w' (some b)/\w.drawn<=w'.drawn:=by
       rw[<-hw'];exact⟨⟨rfl,rfl,rfl,by simp[World.setRow],λj hj hne=>setRow_other w b j _ (λe=>hne (by rw[e]))⟩,Af _⟩
      have hsize:(c.toList.take off++v.cells.toList++c.toList.drop (off+v.cells.toList.length)).toArray.size=k:=by
       simp;omega
      obtain⟨t1,t2⟩:=hS.turn (l:=C.loc o) (ver':=vv) (cs':=yd cs off y.cells) hs (Af _) (λ_=>rfl) (by rw[g1];exact hgr)
       (.inr ⟨b,k,_,g1,.inr (by rw[g1];rfl),hheap,hsize,by simp[yd];omega,λi z hi hz=>by
         rw[AA]at hz
         by_cases q1:i<off
         ·rw[List.append_assoc,An DF,AI q1]at hz;exact g5 i z DB (by rw[<-Array.getElem?_toList];exact hz)
         ·by_cases q2:i<off+v.cells.toList.length
          ·rw[List.append_assoc,Ai DF,As,A9 DF,An DB]at hz;exact r2 _ z (by rw[<-Array.getElem?_toList];exact hz)
          ·rw[Ai (by simp at q2 ⊢;omega),Aq,As,A9 DF,AK]at hz;have:off+v.cells.toList.length+(i-(off+v.cells.toList.length))=i:=DB
           rw[this]at hz;have hi':i<cs.length:=by simp[yd]at hi;omega
           exact g5 i z hi' (by rw[<-Array.getElem?_toList];exact hz),
        λi p z hp hz=>by
         rw[AA]at hz;unfold yd at hp
         by_cases q1:i<off
         ·rw[List.append_assoc,An DF,AI q1]at hz;rw[List.append_assoc,An DF,AI q1]at hp;exact g6 i p z hp (by rw[<-Array.getElem?_toList];exact hz)
         ·by_cases q2:i<off+v.cells.toList.length
          ·rw[List.append_assoc,Ai DF,As,A9 DF,An DB]at hz;rw[List.append_assoc,Ai DF,As,A9 DB,An DB]at hp;exact r3 _ p z hp (by rw[<-Array.getElem?_toList];exact hz)
          ·rw[Ai (by simp at q2 ⊢;omega),Aq,As,A9 DF,AK]at hz;rw[Ai (by simp at q2 ⊢;omega),Aq,As,A9 DB,AK]at hp;have e1:off+v.cells.toList.length+(i-(off+v.cells.toList.length))=i:=DB
           have e2:off+y.cells.length+(i-(off+y.cells.length))=i:=DB
           rw[e1]at hz;rw[e2]at hp;exact g6 i p z hp (by rw[<-Array.getElem?_toList];exact hz)⟩)
      grind[Instr.storeAt,Instr.sureAddr,Sem.run_bind,Result.andThen_ok,storeVar,wS]
   ·cases h
  ·cases h
 ·cases h
def qN(P:Program)(F:Nat->PV)(S:Store)(o:Oper):Option (PV × Store) :=
 match o.op with
 | .load t x=>(uU P t S (ev F x)).map λp=>(p,S)
 | .store t x y=>(Jf P t S (ev F x) (ev F y)).map λS'=>(.sc undef,S')
 | _=>none
def PO0(P:Program)(r:Rd)(n:Nat)(o:Oper)(F:Nat->PV)(S:Store)(K:PV->Store->Prop):Prop :=
 ∀(C:Ctx) (w:World) (a:Act) (N:Nat),St r C S w N F a->∀(next:Act->World->Prop) (Q:Exit->Act->World->Prop),
  (∀v w' C' S' p,K p S'->Rel C' S' w' p v->Sim C' S' w'->Step C S w C' S' w'->next (a.put o.dst v) w')->o.wpIn (Fe r) n P a w next Q
def PO(P:Program)(r:Rd)(n:Nat)(o:Oper)(F:Nat->PV)(S:Store)(K:PV->Store->Prop):Prop :=
 ∀G:Nat->PV,(∀x∈o.op.operands,ev G x=ev F x)->PO0 P r n o G S K
theorem ZiE{P:Program}{F G:Nat->PV}{o:Oper}(h:∀x∈o.op.operands,ev G x=ev F x):wT P G o=wT P F o:=by
 unfold wT;cases ho:o.op<;>simp only[ho]at h ⊢
 case move x=>simp_all[Op.operands]
 case assign x=>simp_all[Op.operands]
 case pick c a b=>simp_all[Op.operands]
 case build t parts =>
  grind[List.map_congr_left,Op.operands]
 case buildSlice t len parts =>
  grind[List.map_congr_left,Op.operands]
 case load t x=>simp_all[Op.operands]
 case nilCheck x=>simp_all[Op.operands]
 case binOp op t x y ty=>simp_all[Op.operands]
 case unOp op t x=>simp_all[Op.operands]
 case convert src dst x=>simp_all[Op.operands]
 case makeInterface t x=>simp_all[Op.operands]
 case makeFunc fn first cap =>
  simp_all[Op.operands]
 case slice t x lo hi mx =>
  have e:∀(y:Option Operand),(∀z,y=some z->ev G z=ev F z)->y.map (ev G)=y.map (ev F):=by
   intro y hy;cases y with
   | none=>rfl
   | some z=>simp[hy z rfl]
  simp_all[Op.operands]
 case fieldAddr t x f=>simp_all[Op.operands]
 case field t x f=>simp_all[Op.operands]
 case indexAddr t x i=>simp_all[Op.operands]
 case index t x i=>simp_all[Op.operands]
 case extract t i=>simp_all[Op.operands]
 case call c =>
  have ha:∀x∈c.args.toList,ev G x=ev F x:=λx hx=>h x (by simp only[Op.operands,Call.operands,Array.mem_append];exact .inr (B1.1 hx))
  grind[Ww]
theorem ZiF{P:Program}{F G:Nat->PV}{S:Store}{o:Oper}(h:∀x∈o.op.operands,ev G x=ev F x):qN P G S o=qN P F S o:=by grind[qN,Op.operands]
theorem qf{P:Program}{r:Rd}{n:Nat}{o:Oper}{a:Act}{w w':World}{x:Next}{next:Act->World->Prop}{Q:Exit->Act->World->Prop}(hnd:∀c,o.op≠.defer c)
  (hr:(execOp a.eval o).run P w=.ok x w') (h:o.uponIn (Fe r) n P a next Q (.ok x w')):o.wpIn (Fe r) n P a w next Q:=by
 refine⟨λ_ _=>trivial,?_⟩
 simp_all[Oper.semAt_eq]
theorem Zak{P:Program}{r:Rd}{n:Nat}{o:Oper}{F:Nat->PV}{S:Store}{K:PV->Store->Prop}{p:PV}(h:wT P F o=some p)(hK:K p S):PO P r n o F S K:=by
 intro G hG;rw[<-ZiE hG]at h;intro C w a N st next Q hnext;obtain⟨v,w',hrun,hrel,hs,hstep⟩:=ZiA h st.sim st.ev;refine qf ?_ hrun (hnext v w' C S p hK hrel hs hstep)
 grind[wT]
theorem Xc{P:Program}{r:Rd}{n:Nat}{o:Oper}{F:Nat->PV}{S S':Store}{K:PV->Store->Prop}{p:PV}(h:qN P F S o=some (p,S'))(hK:K p S'):PO P r n o F S K:=by
 intro G hG;rw[<-ZiF hG]at h;intro C w a N st next Q hnext;have hnd:∀c,o.op≠.defer c:=by intro c hc;simp[qN,hc]at h
 unfold qN at h;split at h
 ·rename_i t x ho;obtain⟨q,hq,he⟩:=Am.1 h;cases he;obtain⟨v,hrun,hrel⟩:=Zdi hq st.sim (st.ev x);refine qf (x:=.value v) (w':=w) hnd ?_ (hnext v w C S p hK hrel st.sim (.refl _ _ _))
  simp_all[execOp]
 ·rename_i t x y ho;obtain⟨q,hq,he⟩:=Am.1 h;cases he;obtain⟨w',C',hrun,hs,hstep⟩:=ZiC hq st.sim (st.ev x) (st.ev y);refine qf (x:=.skip) (w':=w') hnd ?_ (hnext undef w' C' S' _ hK (.sc _) hs hstep)
  simp_all[execOp]
 ·cases h
def WA(H:List Nat)(o:Oper):Bool :=
 match o.dst with
 | some d=>H.contains d
 | none=>false
def vZ(P:Program)(r:Rd)(n:Nat)(H:List Nat)(ops:Array Oper):List Oper->(Nat->PV)->Store->((Nat->PV)->Store->Prop)->Prop
 | [],F,S,K=>K F S
 | o :: os,F,S,K =>
  match gd ops F o with
  | none=>False
  | some false=>vZ P r n H ops os (z6 F o.dst (.sc undef)) S K
  | some true =>
   if WA H o=true then PO P r n o F S (λp S'=>vZ P r n H ops os (z6 F o.dst p) S' K) else
   match wT P F o with
   | some p=>vZ P r n H ops os (z6 F o.dst p) S K
   | none =>
    match qN P F S o with
    | some (p,S')=>vZ P r n H ops os (z6 F o.dst p) S' K
    | none=>PO P r n o F S (λp S'=>vZ P r n H ops os (z6 F o.dst p) S' K)
def Marks(n0:Nat)(C:Ctx)(S:Store)(w:World):List Deferred->Prop
 | []=>True
 | d :: ds=>(∃D,n0<=D/\d={ target:=.collected D,args:=#[] }/\w.heap[D]?=some (.deferred (some []))/\¬C.M S D/\∀d'∈ds,d'≠d)/\Marks n0 C S w ds
theorem Marks.mono{n0:Nat}{C C':Ctx}{S S':Store}{w w':World}(st:Step C S w C' S' w'):∀{ds:List Deferred},Marks n0 C S w ds->Marks n0 C' S' w' ds
 | [],_=>trivial
 | _ :: _,⟨⟨D,h1,h2,h3,h4,h5⟩,h⟩=>by
  obtain⟨k1,k2⟩:=st.blocks D (qn h3) h4;exact⟨⟨D,h1,h2,k1.trans h3,k2,h5⟩,Marks.mono st h⟩
theorem Marks.mem{n0:Nat}{C:Ctx}{S:Store}{w:World}:∀{ds:List Deferred},Marks n0 C S w ds->∀d∈ds,∃D,n0<=D/\D<w.heap.size/\d={ target:=.collected D,args:=#[] }
 | _ :: ds,⟨⟨D,h1,h2,h3,_,_⟩,h⟩,d,hd=>by
  rcases Aw.1 hd with rfl | hd
  ·exact⟨D,h1,qn h3,h2⟩
  ·exact Marks.mem h d hd
theorem Marks.app{n0 n1:Nat}{C:Ctx}{S:Store}{w:World}{ms:List Deferred}(hn:n0<=n1)(hm:Marks n0 C S w ms)(hlt:∀d∈ms,∃D,D<n1/\d={ target:=.collected D,args:=#[] }):
  ∀{ds:List Deferred},Marks n1 C S w ds->Marks n0 C S w (ds++ms)
 | [],_=>hm
 | d :: ds,⟨⟨D,h1,h2,h3,h4,h5⟩,h⟩=>by
  refine⟨⟨D,AB hn h1,h2,h3,h4,λd' hd'=>?_⟩,Marks.app hn hm hlt h⟩;rcases AG.1 hd' with q | q<;>grind
def Defs(n0:Nat)(ds:List Deferred)(C:Ctx)(S:Store)(w:World)(ds':List Deferred):Prop:=∃ms,ds'=ms++ds/\Marks n0 C S w ms
theorem Defs.of_eq{n0:Nat}{ds ds':List Deferred}{C:Ctx}{S:Store}{w:World}(h:ds'=ds):Defs n0 ds C S w ds':=⟨[],h,trivial⟩
theorem Defs.trans{n0:Nat}{ds ds1 ds2:List Deferred}{C1 C2:Ctx}{S1 S2:Store}{w1 w2:World}(h1:Defs n0 ds C1 S1 w1 ds1)(st:Step C1 S1 w1 C2 S2 w2)(hn:n0<=w1.heap.size)(h2:Defs w1.heap.size ds1 C2 S2 w2 ds2):Defs n0 ds C2 S2 w2 ds2:=by
 obtain⟨ms1,rfl,m1⟩:=h1;obtain⟨ms2,rfl,m2⟩:=h2;refine⟨ms2++ms1,by simp,Marks.app hn (m1.mono st) (λd hd=>?_) m2⟩;obtain⟨D,_,h,e⟩:=m1.mem d hd
 simp_all
def PW(P:Program)(r:Rd)(n N:Nat)(c:Code)(Q:Exit->(Nat->PV)->Store->Prop)(F:Nat->PV)(S:Store):Prop :=
 ∀(C:Ctx) (w:World) (a:Act),St r C S w N F a->c.wpIn (Fe r) n P (λe a' w'=>∃F' S' C',Q e F' S'/\St r C' S' w' N F' a'/\Defs w.heap.size a.defers C' S' w' a'.defers/\Step C S w C' S' w') a w
section rules
variable {P:Program} {r:Rd} {n N:Nat} {Q:Exit->(Nat->PV)->Store->Prop} {F:Nat->PV} {S:Store}
theorem Zal(k m:Nat)(h:k<m):(List.range m).drop k=k :: (List.range m).drop (k+1):=by simp_all[AJ]
theorem Xd(a:Act)(d:Option Nat)(v:Value):(a.put d v).defers=a.defers:=by cases d<;>rfl
theorem ZiG{H:List Nat}{ops:Array Oper}{Q':Exit->Act->World->Prop}(hN:∀o∈ops,∀d,o.dst=some d->d<N){K:(Nat->PV)->Store->Prop}{C0:Ctx}{S0:Store}{w0:World}{ds:List Deferred}
  (hQ:∀F' S' C' w' a',K F' S'->St r C' S' w' N F' a'->a'.defers=ds->Step C0 S0 w0 C' S' w'->Q' .normal a' w') :
  ∀(m k:Nat) (F:Nat->PV) (S:Store) (C:Ctx) (w:World) (a:Act),ops.size-k=m->vZ P r n H ops (ops.toList.drop k) F S K->St r C S w N F a->a.defers=ds->Step C0 S0 w0 C S w ->
   wpOpsIn (Fe r) n P ops Q' ((List.range ops.size).drop k) a w:=by
 intro m
 induction m with
 | zero =>
  intro k F S C w a hm h st hd step;have e1:(List.range ops.size).drop k=[]:=BN DF;have e2:ops.toList.drop k=[]:=BN DF;rw[e1];rw[e2]at h;exact hQ F S C w a h st hd step
 | succ m ih =>
  intro k F S C w a hm h st hd step;have hk:k<ops.size:=DB
  rw[Zal k _ hk];have e2:ops.toList.drop k=ops[k] :: ops.toList.drop (k+1):=by
   rw[AJ DB];simp
  rw[e2]at h;have hget:ops[k]?=some ops[k]:=DC
  have hdst:∀x,ops[k].dst=some x->x<N:=hN _ (C8 hk);rw[wpOpsIn_cons];unfold wpOpIn;rw[hget];dsimp only;simp only[vZ]at h;split at h
  ·exact h.elim
  ·rename_i hg;rw[YI st hg];simp only[AP,if_false];exact⟨λ_ _=>trivial,ih (k+1) _ _ C w _ DB h (st.put (.refl _ _ _) st.sim hdst (.sc _)) (by simp_all[Xd]) step⟩
  ·rename_i hg;rw[YI st hg];simp only[if_true];have go:PO P r n ops[k] F S (λp S'=>vZ P r n H ops (ops.toList.drop (k+1)) (z6 F ops[k].dst p) S' K)->Oper.wpIn (Fe r) n P ops[k] a w (wpOpsIn (Fe r) n P ops Q' ((List.range ops.size).drop (k+1))) Q':=λhpo =>
    hpo F (λ_ _=>rfl) C w a N st _ _ (λv w' C' S' p hp hrel hs hstep=>ih (k+1) _ _ C' w' _ DB hp (st.put hstep hs hdst hrel) (by rw[Xd];exact hd) (step.trans hstep))
   grind[Zak,Xc]
def wy(N:Nat)(ops:Array Oper):Bool:=ops.toList.all λo=>match o.dst with | some d=>Nat.blt d N | none=>true
theorem WB{ops:Array Oper}(h:wy N ops=true):∀o∈ops,∀d,o.dst=some d->d<N:=by grind[wy,Nat.blt_eq]
theorem Zdj{id:Nat}{ops:Array Oper}(H:List Nat)(hN:wy N ops=true)(h:vZ P r n H ops ops.toList F S (Q .normal)):PW P r n N (.region id ops false) Q F S:=by
 intro C w a st;refine wpIn_region ?_;have:=ZiG (H:=H) (Q':=λe a' w'=>∃F' S' C',Q e F' S'/\St r C' S' w' N F' a'/\Defs w.heap.size a.defers C' S' w' a'.defers/\Step C S w C' S' w') (WB hN)
  (λF' S' C' w' a' hk hst hd hstep=>⟨F',S',C',hk,hst,.of_eq hd,hstep⟩) ops.size 0 F S C w a rfl (K:=Q .normal) (by simpa using h) st rfl (.refl _ _ _)
 simpa using this
def Z6(K:(Nat->PV)->Store->Prop)(Q:Exit->(Nat->PV)->Store->Prop):Exit->(Nat->PV)->Store->Prop
 | .normal,F,S=>K F S
 | e,F,S=>Q e F S
theorem Xe{c:Code}{Q':Exit->(Nat->PV)->Store->Prop}(h:PW P r n N c Q F S)(hq:∀e F S,Q e F S->Q' e F S):PW P r n N c Q' F S:=by
 intro C w a st;exact wpIn_mono (h C w a st) λe a' w' ⟨F',S',C',h1,h2⟩=>⟨F',S',C',hq _ _ _ h1,h2⟩
theorem ze{x y:Code}(h:PW P r n N x (Z6 (PW P r n N y Q) Q) F S):PW P r n N (.seq x y) Q F S:=by
 intro C w a st;refine wpIn_seq (wpIn_mono (h C w a st) ?_);rintro e a' w' ⟨F',S',C',hq,hst,hd,hstep⟩;cases e with
 | normal =>
  refine wpIn_mono (hq C' w' a' hst) ?_;rintro e a'' w'' ⟨F2,S2,C2,h1,h2,h3,h4⟩;exact⟨F2,S2,C2,h1,h2,hd.trans h4 hstep.size h3,hstep.trans h4⟩
 | _=>exact⟨F',S',C',hq,hst,hd,hstep⟩
theorem zk(h:Q .normal F S):PW P r n N .skip Q F S:=λC _ _ st=>wpIn_skip ⟨F,S,C,h,st,.of_eq rfl,.refl _ _ _⟩
theorem zC{id:Nat}(h:Q (.exit id) F S):PW P r n N (.exit id) Q F S:=λC _ _ st=>wpIn_exit ⟨F,S,C,h,st,.of_eq rfl,.refl _ _ _⟩
theorem zj(h:Q .ret F S):PW P r n N .ret Q F S:=λC _ _ st=>wpIn_ret ⟨F,S,C,h,st,.of_eq rfl,.refl _ _ _⟩
theorem zz{c:Operand}{x y:Code}{t:Bool}(hc:ev F c=.sc (.bool t))(h1:t=true->PW P r n N x Q F S)(h2:t=false->PW P r n N y Q F S):PW P r n N (.cond c x y) Q F S:=by
 intro C w a st;have:=st.ev c;rw[hc]at this;generalize hv:a.eval c=v at this;cases this;exact wpIn_cond_split hv (λe=>h1 e C w a st) (λe=>h2 e C w a st)
def jx(id:Nat)(Q:Exit->(Nat->PV)->Store->Prop):Exit->(Nat->PV)->Store->Prop
 | .exit id',F,S=>if id'=id then Q .normal F S else Q (.exit id') F S
 | e,F,S=>Q e F S
theorem zn{id:Nat}{c:Code}(h:PW P r n N c (jx id Q) F S):PW P r n N (.block id c) Q F S:=by
 intro C w a st;refine wpIn_block (wpIn_mono (h C w a st) ?_);rintro e a' w' ⟨F',S',C',hq,rest⟩;cases e<;>grind[jx,Exit.inBlock]
theorem Zam{c:Code}(I:(Nat->PV)->Store->Nat->Prop)(m0:Nat)(h0:I F S m0)(round:∀m F S,I F S m->PW P r n N c (Z6 (λF' S'=>∃m',I F' S' m'/\m'<m) Q) F S):PW P r n N (.loop c) Q F S:=by
 intro C w a st b k cs hro hb hr;have key:∀j F1 S1 C1 w1 a1,I F1 S1 j->St r C1 S1 w1 N F1 a1->Defs w.heap.size a.defers C1 S1 w1 a1.defers->Step C S w C1 S1 w1 ->
   ∃e a' w',(∃F' S' C',Q e F' S'/\St r C' S' w' N F' a'/\Defs w.heap.size a.defers C' S' w' a'.defers/\Step C S w C' S' w')/\ArrivesIn (Machine.fenced P (Fe r)) P (lone (b.atR a1 (.code c :: .inLoop c :: k)) cs w1) b k cs e a' w':=by
  intro j
  induction j using Nat.strongRecOn with
  | _ j ih =>
   intro F1 S1 C1 w1 a1 hI st1 hd1 hstep1;obtain⟨e,a2,w2,⟨F2,S2,C2,hq,st2,hd2,hstep2⟩,harr⟩:=round j F1 S1 hI C1 w1 a1 st1 b (.inLoop c :: k) cs hro hb hr;cases e with
   | normal =>
    obtain⟨m',hI',hlt⟩:=hq;obtain⟨e3,a3,w3,hq3,harr3⟩:=ih m' hlt F2 S2 C2 w2 a2 hI' st2 (hd1.trans hstep2 hstep1.size hd2) (hstep1.trans hstep2);exact⟨e3,a3,w3,hq3,.of_steps (StepsIn.trans harr (.one (fenced_calm hb hr rfl) stepR_inLoop)) harr3⟩
   | exit id=>exact⟨_,a2,w2,⟨F2,S2,C2,hq,st2,hd1.trans hstep2 hstep1.size hd2,hstep1.trans hstep2⟩,.pass (x:=.inLoop c) rfl (λ_ _=>.inl DC) harr⟩
   | goto l=>exact⟨_,a2,w2,⟨F2,S2,C2,hq,st2,hd1.trans hstep2 hstep1.size hd2,hstep1.trans hstep2⟩,.pass (x:=.inLoop c) rfl (λ_ _=>.inl DC) harr⟩
   | ret=>exact⟨_,a2,w2,⟨F2,S2,C2,hq,st2,hd1.trans hstep2 hstep1.size hd2,hstep1.trans hstep2⟩,.pass (x:=.inLoop c) rfl (λ_ _=>.inl DC) harr⟩
   | panic ch=>exact⟨_,a2,w2,⟨F2,S2,C2,hq,st2,hd1.trans hstep2 hstep1.size hd2,hstep1.trans hstep2⟩,.pass (x:=.inLoop c) rfl (λ_ _=>.inl DC) harr⟩
   | outgrown=>exact⟨_,a2,w2,⟨F2,S2,C2,hq,st2,hd1.trans hstep2 hstep1.size hd2,hstep1.trans hstep2⟩,.pass (x:=.inLoop c) rfl (λ_ _=>.inl DC) harr⟩
 obtain⟨e,a',w',hq,harr⟩:=key m0 F S C w a h0 st (.of_eq rfl) (.refl _ _ _);exact⟨e,a',w',hq,.of_steps (.one (fenced_calm hb hr rfl) stepR_loop) harr⟩
end rules
open Go
def wV(o:Oper):List Nat:=(o.after.toList.filter (Region.binds .any)).map (·.on)
def uc(ops:Array Oper)(o:Oper):List Nat :=
 (o.op.operands.toList.filterMap fun | .tmp t=>some t | _=>none) ++
 (match o.guard with
  | none=>[]
  | some (j,_)=>match (ops[j]?).bind (·.dst) with | some d=>[d] | none=>[])
def WC:List Oper->List (List Nat)->List (List Nat)
 | [],acc=>acc
 | o :: os,acc=>WC os (acc++[((wV o).flatMap λe=>e :: acc.getD e []).eraseDups])
def Qo(ops:Array Oper):List (List Nat):=WC ops.toList []
def Zdk(ops:Array Oper)(A:List (List Nat))(i j:Nat):Bool :=
 match ops[i]?,ops[j]? with
 | some oi,some oj =>
  match oj.dst with
  | none=>true
  | some d =>
   if i=j then !(uc ops oi).contains d
   else decide (oi.dst≠some d) && (!(uc ops oi).contains d || (if j<i then (A.getD i []).contains j else (A.getD j []).contains i))
 | _,_=>true
def Qp(ops:Array Oper):Bool :=
 let A:=Qo ops
 (List.range ops.size).all λi =>
  (match ops[i]? with | some o=>(wV o).all (·<i) | none=>true) &&
  (List.range ops.size).all λj=>Zdk ops A i j
inductive Row where
 | done
 | pure (i:Nat) (r:Row)
 | alt (i:Nat) (r more:Row)
 | stop
def Row.pures:List Nat->Row->Row
 | [],r=>r
 | i :: is,r=>.pure i (Row.pures is r)
def Row.chain:Row->Bool
 | .alt _ _ _=>true
 | .stop=>true
 | _=>false
def Z7(ops:Array Oper)(pre:List Nat)(i:Nat):Bool :=
 match ops[i]? with
 | some o=>(wV o).all (pre.contains ·) && !pre.contains i
 | none=>false
def xz(ops:Array Oper):List Nat->List Nat->Row->Bool
 | pre,_,.done=>(List.range ops.size).all (pre.contains ·)
 | pre,_,.pure i r=>Z7 ops pre i && xz ops (i :: pre) [] r
 | pre,acc,.alt i r more=>Z7 ops pre i && xz ops (i :: pre) [] r && xz ops pre (i :: acc) more && more.chain
 | pre,acc,.stop=>!acc.isEmpty && (List.range ops.size).all λj=>pre.contains j || acc.contains j || !Z7 ops pre j
def Qq(ops:Array Oper)(L:Nat->Prop):Prop:=∀j o,L j->ops[j]?=some o->∀e∈wV o,L e
theorem Zdl(L:Nat->Prop)(whole:List Oper)(hL:∀j o,L j->whole[j]?=some o->∀e∈wV o,L e):
  ∀(l:List Oper) (pre:List Oper) (acc:List (List Nat)),whole=pre++l->acc.length=pre.length ->
   (∀(j:Nat) (o:List Nat),acc[j]?=some o->∀p,whole[j]?=some p->(∀e∈wV p,L e)->∀k∈o,L k) ->
   ∀(j:Nat) (o:List Nat),(WC l acc)[j]?=some o->∀p,whole[j]?=some p->(∀e∈wV p,L e)->∀k∈o,L k
 | [],_,_,_,_,h=>h
 | x :: xs,pre,acc,hw,hl,h=>by
  simp only[WC];refine Zdl L whole hL xs (pre++[x]) _ (by rw[hw];simp) (by simp[hl]) ?_;intro j o hj p hp he k hk
  by_cases hlt:j<acc.length
  ·grind
  ·rw[Ai DB]at hj;have hje:j=acc.length:=by
    rcases Be (j-acc.length) 1 with q | q
    ·omega
    ·grind
   subst hje;simp only[Bp,A3,Option.some.injEq]at hj;subst hj;have hpx:p=x:=by
    rw[hw,Ai DB,hl,Bp]at hp;simpa using hp.symm
   subst hpx;rw[List.mem_eraseDups,BY]at hk;obtain⟨e,heM,hk⟩:=hk;rw[Aw]at hk;rcases hk with rfl | hk
   ·exact he k heM
   ·cases hg:acc[e]? with
    | none=>simp_all
    | some ae =>
     rw[Aa,hg]at hk;have hew:∃q,whole[e]?=some q:=by
      have:e<acc.length:=(Ac.1 hg).1;exact⟨_,Ad (by rw[hw];simp;omega)⟩
     obtain⟨q,hq⟩:=hew
     grind
theorem Zan{ops:Array Oper}{L:Nat->Prop}(hL:Qq ops L){j:Nat}{o:Oper}(ho:ops[j]?=some o)(he:∀e∈wV o,L e){k:Nat}(hk:k∈(Qo ops).getD j []):L k:=by
 have:=Zdl L ops.toList (λj o h1 h2=>hL j o h1 (by rw[<-Array.getElem?_toList];exact h2)) ops.toList [] [] DC rfl (λj o h=>by cases h)
 grind[Qo]
section
variable {P:Program} {r:Rd} {n N:Nat} {Q:Exit->(Nat->PV)->Store->Prop} {F:Nat->PV} {S:Store}
def yH(ids:Option (List Nat))(S0 S:Store):Prop :=
 match ids with
 | none=>S=S0
 | some l=>∀x∈l,S x=S0 x
def Qr(P:Program)(ids:Option (List Nat))(S0:Store)(F:Nat->PV)(o:Oper):Option PV :=
 match o.op with
 | .load t x =>
  match ev F x with
  | .ptr id ver off =>
   match ids with
   | none=>uU P t S0 (.ptr id ver off)
   | some l=>if id∈l then uU P t S0 (.ptr id ver off) else none
  | _=>none
 | _=>none
theorem ZiH{ids:Option (List Nat)}{S0:Store}{o:Oper}{p:PV}(h:Qr P ids S0 F o=some p)(S':Store)(hS:yH ids S0 S'):PO P r n o F S' (λq S''=>q=p/\S''=S'):=by
 unfold Qr at h;split at h
 ·rename_i t x ho;split at h
  ·rename_i id ver off hx;have hl:uU P t S' (.ptr id ver off)=some p:=by
    cases ids with
    | none=>cases hS;exact h
    | some l =>
     simp only at h;split at h
     ·rename_i hm;have:=hS id hm
      simp_all[uU]
     ·cases h
   exact Xc (p:=p) (S':=S') (by simp_all[qN]) ⟨rfl,rfl⟩
  ·cases h
 ·cases h
def PX(P:Program)(r:Rd)(n:Nat)(ops:Array Oper)(ids:Option (List Nat))(S0:Store):Row->(Nat->PV)->Store->((Nat->PV)->Store->Prop)->Prop
 | .done,F,S,K=>K F S
 | .stop,_,_,_=>True
 | .pure i is,F,S,K =>
  match ops[i]? with
  | none=>False
  | some o =>
   match gd ops F o with
   | none=>False
   | some false=>PX P r n ops ids S0 is (z6 F o.dst (.sc undef)) S K
   | some true =>
    match wT P F o with
    | some p=>PX P r n ops ids S0 is (z6 F o.dst p) S K
    | none =>
     match Qr P ids S0 F o with
     | some p=>PX P r n ops ids S0 is (z6 F o.dst p) S K
     | none=>∃p,(∀S',yH ids S0 S'->PO P r n o F S' (λq S''=>q=p/\S''=S'))/\PX P r n ops ids S0 is (z6 F o.dst p) S K
 | .alt i is more,F,S,K =>
  (match ops[i]? with
  | none=>False
  | some o =>
   match gd ops F o with
   | none=>False
   | some false=>PX P r n ops ids S0 is (z6 F o.dst (.sc undef)) S K
   | some true =>
    match qN P F S o with
    | some (p,S')=>yH ids S0 S'/\PX P r n ops ids S0 is (z6 F o.dst p) S' K
    | none=>PO P r n o F S (λp S'=>yH ids S0 S'/\PX P r n ops ids S0 is (z6 F o.dst p) S' K)) /\
  PX P r n ops ids S0 more F S K
def Xf(ops:Array Oper)(val:Nat->PV)(F0:Nat->PV)(j:Nat)(o:Oper)(G:Nat->PV):Prop :=
 ∀t∈uc ops o,(∀j' o',ops[j']?=some o'->o'.dst=some t->j'<j->G t=val j')/\((∀j' o',ops[j']?=some o'->o'.dst=some t->¬j'<j)->G t=F0 t)
def Xg(ops:Array Oper)(val:Nat->PV)(F0:Nat->PV)(L:Nat->Prop)(G:Nat->PV):Prop :=
 ∀t,(∀j o,L j->ops[j]?=some o->o.dst=some t->G t=val j)/\((∀j o,L j->ops[j]?=some o->o.dst≠some t)->G t=F0 t)
structure RegOk (ops:Array Oper):Prop where
 edge:∀(i:Nat) (o:Oper),ops[i]?=some o->∀e∈wV o,e<i
 dst:∀(i j:Nat) (oi oj:Oper) (d:Nat),ops[i]?=some oi->ops[j]?=some oj->i≠j->oi.dst=some d->oj.dst≠some d
 self:∀(i:Nat) (o:Oper) (d:Nat),ops[i]?=some o->o.dst=some d->d ∉ uc ops o
 before:∀(i j:Nat) (oi oj:Oper) (d:Nat),ops[i]?=some oi->ops[j]?=some oj->oj.dst=some d->d∈uc ops oi->j<i->j∈(Qo ops).getD i []
 behind:∀(i j:Nat) (oi oj:Oper) (d:Nat),ops[i]?=some oi->ops[j]?=some oj->oj.dst=some d->d∈uc ops oi->i<j->i∈(Qo ops).getD j []
theorem ZiI{ops:Array Oper}(h:Qp ops=true):RegOk ops:=by
 unfold Qp at h;simp only[Az,AH,Ao]at h;have lt:∀{i o},ops[i]?=some o->i<ops.size:=λh=>(Bf.1 h).1
 have pair:∀{i j oi oj d},ops[i]?=some oi->ops[j]?=some oj->oj.dst=some d ->
   (if i=j then !(uc ops oi).contains d else decide (oi.dst≠some d) && (!(uc ops oi).contains d || (if j<i then ((Qo ops).getD i []).contains j else ((Qo ops).getD j []).contains i)))=true:=by
  intro i j oi oj d hi hj hd;have:=(h i (lt hi)).2 j (lt hj);unfold Zdk at this;rw[hi,hj]at this;simp only[hd]at this;exact this
 refine⟨?_,?_,?_,?_,?_⟩
 ·grind
 ·grind
 ·grind
 ·intro i j oi oj d hi hj hd hmem hlt;have:=pair hi hj hd;rw[if_neg DB]at this
  grind
 ·intro i j oi oj d hi hj hd hmem hlt;have:=pair hi hj hd;rw[if_neg DB]at this
  grind
theorem WD{ops:Array Oper}(R:RegOk ops){val F0 G:Nat->PV}{L:Nat->Prop}(hL:Qq ops L)(hG:Xg ops val F0 L G){i:Nat}{o:Oper}(hi:ops[i]?=some o)(hn:¬L i)
  (he:∀e∈wV o,L e):Xf ops val F0 i o G:=by
 intro t ht;refine⟨λj o' hj hd hlt=>?_,λhno=>?_⟩
 ·exact(hG t).1 j o' (Zan hL hi he (R.before i j o o' t hi hj hd ht hlt)) hj hd
 ·refine(hG t).2 λj o' hLj hj hd=>?_
  have h1:=hno j o' hj hd;rcases Be i j with q | q
  ·exact hn (Zan hL hj (hL j o' hLj hj) (R.behind i j o o' t hi hj hd ht q))
  grind
theorem Zdm{ops:Array Oper}{val F0 G G':Nat->PV}{i:Nat}{o:Oper}(h:Xf ops val F0 i o G)(h':Xf ops val F0 i o G'):∀t∈uc ops o,G t=G' t:=by
 intro t ht
 by_cases hx:∃j o',ops[j]?=some o'/\o'.dst=some t/\j<i
 ·obtain⟨j,o',h1,h2,h3⟩:=hx;rw[(h t ht).1 j o' h1 h2 h3,(h' t ht).1 j o' h1 h2 h3]
 ·have hno:∀j' o',ops[j']?=some o'->o'.dst=some t->¬j'<i:=λj' o' h1 h2 h3=>hx ⟨j',o',h1,h2,h3⟩
  rw[(h t ht).2 hno,(h' t ht).2 hno]
theorem Zdn{ops:Array Oper}{o:Oper}{G G':Nat->PV}(h:∀t∈uc ops o,G t=G' t):∀x∈o.op.operands,ev G x=ev G' x:=by
 intro x hx;cases x with
 | tmp t =>
  refine h t ?_;unfold uc;rw[AG];left;rw[B7];exact⟨.tmp t,B1.2 hx,rfl⟩
 | _=>rfl
theorem WE{ops:Array Oper}{o:Oper}{G G':Nat->PV}(h:∀t∈uc ops o,G t=G' t):gd ops G o=gd ops G' o:=by grind[gd,uc]
def Zao(P:Program)(r:Rd)(n:Nat)(ops:Array Oper)(T:Store->Prop)(val F0:Nat->PV)(j:Nat):Prop :=
 ∃o,ops[j]?=some o/\∀G,Xf ops val F0 j o G->(gd ops G o=some false/\val j=.sc undef)\/(gd ops G o=some true/\∀S',T S'->PO P r n o G S' (λq S''=>q=val j/\S''=S'))
theorem ZiJ{o:Oper}{F G:Nat->PV}{S:Store}{K:PV->Store->Prop}(h:PO P r n o F S K)(hG:∀x∈o.op.operands,ev G x=ev F x):PO P r n o G S K :=
 λG' hG'=>h G' (λx hx=>(hG' x hx).trans (hG x hx))
theorem WF{ops:Array Oper}(R:RegOk ops){val F0 G:Nat->PV}{L:Nat->Prop}(h:Xg ops val F0 L G){i:Nat}{o:Oper}(hi:ops[i]?=some o){p:PV}{val':Nat->PV}(hp:val' i=p)(hv:∀j,L j->val' j=val j):
  Xg ops val' F0 (λj=>j=i\/L j) (z6 G o.dst p):=by
 intro t
 by_cases hd:o.dst=some t
 ·rw[hd];simp only[z6,xV,if_pos];refine⟨λj oj hj ho hdj=>?_,λhno=>absurd hd (hno i o (.inl rfl) hi)⟩;rcases hj with rfl | hj
  ·exact hp.symm
  ·by_cases hne:j=i
   ·simp_all
   ·exact absurd hdj (R.dst i j o oj t hi ho (λe=>hne e.symm) hd)
 ·have e:z6 G o.dst p t=G t:=by
   cases hq:o.dst with
   | none=>rfl
   | some d=>simp only[z6,xV];grind
  rw[e];refine⟨λj oj hj ho hdj=>?_,λhno=>(h t).2 λj oj hj ho=>hno j oj (.inr hj) ho⟩;rcases hj with rfl | hj
  ·simp_all
  ·rw[hv j hj];exact(h t).1 j oj hj ho hdj
theorem Zdo{ops:Array Oper}(R:RegOk ops){T:Store->Prop}{val val' F0:Nat->PV}{L:Nat->Prop}(hL:Qq ops L)(hv:∀j,L j->val' j=val j){j:Nat}(hj:L j)(h:Zao P r n ops T val F0 j):Zao P r n ops T val' F0 j:=by
 obtain⟨o,ho,h⟩:=h;refine⟨o,ho,λG hG=>?_⟩;rw[hv j hj];refine h G λt ht=>⟨λj' o' h1 h2 h3=>?_,(hG t ht).2⟩
 have hl:L j':=Zan hL ho (hL j o hj ho) (R.before j j' o o' t ho h1 h2 ht h3);rw[<-hv j' hl];exact(hG t ht).1 j' o' h1 h2 h3
structure Mid (P:Program) (r:Rd) (n:Nat) (ops:Array Oper) (ids:Option (List Nat)) (S0:Store) (F0:Nat->PV) (K:(Nat->PV)->Store->Prop) (E:Nat->Prop) (G:Nat->PV) (S:Store) (val:Nat->PV) (pre:List Nat) (row:Row) (Fp:Nat->PV):Prop where
 closedE:Qq ops E
 closedP:Qq ops (·∈pre)
 frmE:Xg ops val F0 E G
 frmP:Xg ops val F0 (·∈pre) Fp
 sub:∀j,E j->j∈pre
 evid:∀j,j∈pre->¬E j->Zao P r n ops (yH ids S0) val F0 j
 px:PX P r n ops ids S0 row Fp S K
 row:xz ops pre [] row=true
 t:yH ids S0 S
theorem WG{ops:Array Oper}{pre:List Nat}{i:Nat}(h:Z7 ops pre i=true):∃o,ops[i]?=some o/\(∀e∈wV o,e∈pre)/\i ∉ pre:=by grind[Z7]
theorem Zdp{ops:Array Oper}(R:RegOk ops){ids:Option (List Nat)}{S0:Store}{F0:Nat->PV}{K:(Nat->PV)->Store->Prop}{E:Nat->Prop}{G Fp:Nat->PV}{val:Nat->PV}{pre:List Nat}{rest:Row}{i:Nat}{o:Oper}
  (h:Mid P r n ops ids S0 F0 K E G S val pre (.pure i rest) Fp) (ho:ops[i]?=some o) {p:PV} (hx:PX P r n ops ids S0 rest (z6 Fp o.dst p) S K)
  (hev:(gd ops Fp o=some false/\p=.sc undef)\/(gd ops Fp o=some true/\∀S',yH ids S0 S'->PO P r n o Fp S' (λq S''=>q=p/\S''=S'))) :
  Mid P r n ops ids S0 F0 K E G S (λj=>if j=i then p else val j) (i :: pre) rest (z6 Fp o.dst p):=by
 have hrow0:=h.row;simp only[xz,Ao]at hrow0;obtain⟨o',ho',hedge,hni⟩:=WG hrow0.1;rw[ho]at ho';cases ho';have hnE:∀j,E j->j≠i:=λj hj e=>hni (e ▸ h.sub j hj)
 have hclP:Qq ops (·∈i :: pre):=by
  intro j oj hj hoj e he;rw[Aw]at hj ⊢;rcases hj with rfl | hj
  ·simp_all
  ·exact .inr (h.closedP j oj hj hoj e he)
 have hval:∀j,j∈pre->(λj=>if j=i then p else val j) j=val j:=λj hj=>if_neg (λ(e:j=i)=>hni (e ▸ hj))
 refine⟨h.closedE,hclP,?_,?_,λj hj=>CP _ (h.sub j hj),?_,hx,hrow0.2,h.t⟩
 ·intro t;refine⟨λj oj hj hoj hd=>?_,(h.frmE t).2⟩;simp only[if_neg (hnE j hj)];exact(h.frmE t).1 j oj hj hoj hd
 ·have:=WF (val':=λj=>if j=i then p else val j) R h.frmP ho (p:=p) DC hval
  simp_all
 ·intro j hj hnj;rw[Aw]at hj
  by_cases hji:j=i
  ·subst hji;refine⟨o,ho,λG' hG'=>?_⟩;have s1:Xf ops (λj'=>if j'=j then p else val j') F0 j o Fp:=by
    have:=WD R h.closedP h.frmP ho hni hedge;intro t ht;refine⟨λj' o' h1 h2 h3=>?_,(this t ht).2⟩;simp only[if_neg (Nat.ne_of_lt h3)];exact(this t ht).1 j' o' h1 h2 h3
   have eq:=Zdm hG' s1;simp only[if_pos];rcases hev with ⟨e1,e2⟩ | ⟨e1,e2⟩
   ·simp_all[WE]
   ·exact .inr ⟨by simp_all[WE],λS' hS'=>ZiJ (e2 S' hS') (Zdn eq)⟩
  ·rcases hj with hj | hj
   ·omega
   ·exact Zdo R h.closedP hval hj (h.evid j hj hnj)
theorem ZiK{ops:Array Oper}{ids:Option (List Nat)}{S0:Store}{i:Nat}{is:Row}{K:(Nat->PV)->Store->Prop}{o:Oper}(ho:ops[i]?=some o)(h:PX P r n ops ids S0 (.pure i is) F S K):
  (gd ops F o=some false/\PX P r n ops ids S0 is (z6 F o.dst (.sc undef)) S K) \/
  (gd ops F o=some true/\∃p,(∀S',yH ids S0 S'->PO P r n o F S' (λq S''=>q=p/\S''=S'))/\PX P r n ops ids S0 is (z6 F o.dst p) S K):=by grind[PX,Zak,ZiH]
theorem ZiL{ops:Array Oper}{ids:Option (List Nat)}{S0:Store}{K:(Nat->PV)->Store->Prop}{pre:List Nat}{i:Nat}{o:Oper}(ho:ops[i]?=some o)(hr:Z7 ops pre i=true):
  ∀(row:Row) (acc:List Nat),i ∉ acc->row.chain=true->xz ops pre acc row=true->PX P r n ops ids S0 row F S K ->
   ∃rest,xz ops (i :: pre) [] rest=true /\
    ((gd ops F o=some false/\PX P r n ops ids S0 rest (z6 F o.dst (.sc undef)) S K)\/(gd ops F o=some true/\PO P r n o F S (λp S'=>yH ids S0 S'/\PX P r n ops ids S0 rest (z6 F o.dst p) S' K))):=by
 intro row
 induction row with
 | done=>intro acc _ h;cases h
 | pure j r _=>intro acc _ h;cases h
 | stop =>
  grind[xz,WG]
 | alt j rest more ih1 ih2 =>
  intro acc hacc _ hrow hpx;simp only[xz,Ao]at hrow;simp only[PX]at hpx
  by_cases hij:i=j<;>grind[Xc]
theorem Zdq{ops:Array Oper}{ids:Option (List Nat)}{S0:Store}{F0:Nat->PV}{K:(Nat->PV)->Store->Prop}{E:Nat->Prop}{G Fp:Nat->PV}{val:Nat->PV}{pre:List Nat}{row:Row}
  (h:Mid P r n ops ids S0 F0 K E G S val pre row Fp) (hE:∀i,i<ops.size->E i):K G S:=by
 have hpre:∀i,i<ops.size->i∈pre:=λi hi=>h.sub i (hE i hi)
 have noready:∀i,Z7 ops pre i=true->False:=by
  intro i hi;obtain⟨o,ho,_,hni⟩:=WG hi;exact hni (hpre i (Bf.1 ho).1)
 have hK:K Fp S:=by
  have hrow:=h.row;have hpx:=h.px;cases row with
  | done=>exact hpx
  | pure i r'=>simp only[xz,Ao]at hrow;exact(noready i hrow.1).elim
  | alt i r' m=>simp only[xz,Ao]at hrow;exact(noready i hrow.1.1.1).elim
  | stop=>simp[xz]at hrow
 have:G=Fp:=by
  funext t
  by_cases hx:∃(j:Nat) (o:Oper),ops[j]?=some o/\o.dst=some t
  ·obtain⟨j,o,h1,h2⟩:=hx;have hj:=hE j (Bf.1 h1).1;rw[(h.frmE t).1 j o hj h1 h2,(h.frmP t).1 j o (h.sub j hj) h1 h2]
  ·rw[(h.frmE t).2 λj o _ h1 h2=>hx ⟨j,o,h1,h2⟩,(h.frmP t).2 λj o _ h1 h2=>hx ⟨j,o,h1,h2⟩]
 simp_all
theorem ZiM{ops:Array Oper}{Q':Exit->Act->World->Prop}(hN:∀o∈ops,∀d,o.dst=some d->d<N)(R:RegOk ops){ids:Option (List Nat)}{Sb:Store}{F0:Nat->PV}{K:(Nat->PV)->Store->Prop}
  {C0:Ctx} {S0:Store} {w0:World} {ds:List Deferred}
  (hQ:∀F' S' C' w' a',K F' S'->St r C' S' w' N F' a'->a'.defers=ds->Step C0 S0 w0 C' S' w'->Q' .normal a' w') :
  ∀(fuel:Nat) (listed:Array Bool) (U:List Nat) (G:Nat->PV) (S:Store) (C:Ctx) (w:World) (a:Act) (val:Nat->PV) (pre:List Nat) (row:Row) (Fp:Nat->PV),
   listed.size=ops.size->U.length=fuel->(∀i,i<ops.size->listed.getD i false=false->i∈U) ->
   Mid P r n ops ids Sb F0 K (λj=>listed.getD j false=true) G S val pre row Fp ->
   St r C S w N G a->a.defers=ds->Step C0 S0 w0 C S w->wpAnyIn (Fe r) n P .any ops Q' fuel listed a w:=by
 intro fuel
 induction fuel with
 | zero =>
  intro listed U G S C w a val pre row Fp hsz hU hcov hmid st hd step;have hUe:U=[]:=Ap hU;have hlisted:∀i,i<ops.size->listed.getD i false=true:=by
   intro i hi;cases hb:listed.getD i false with
   | false=>have:=hcov i hi hb;rw[hUe]at this;cases this
   | true=>rfl
  refine⟨?_,hQ G S C w a (Zdq hmid hlisted) st hd step⟩;rw[List.eq_nil_iff_forall_not_mem]
  grind[mem_ready]
 | succ fuel ih =>
  intro listed U G S C w a val pre row Fp hsz hU hcov hmid st hd step;refine⟨λhr=>?_,λi hi=>?_⟩
  ·have hlisted:∀i,i<ops.size->listed.getD i false=true:=by
    intro i
    induction i using Nat.strongRecOn with
    | _ i ihi =>
     intro hi;cases hb:listed.getD i false with
     | true=>rfl
     | false =>
      have ho:ops[i]?=some (ops[i]'hi):=DC
      have:i∈Region.ready .any ops listed:=by
       refine mem_ready.2 ⟨?_,ops[i]'hi,ho,λe he hbd=>?_⟩
       ·rw[AV]at hb ⊢;rw[A4 DB]at hb ⊢;simpa using hb
       ·have hlt:=R.edge i _ ho e.on (by unfold wV;rw[Ar];exact⟨e,by rw[Bi];exact⟨B1.2 he,hbd⟩,rfl⟩);exact ihi e.on hlt DB
      rw[hr]at this;cases this
   grind[Zdq]
  ·obtain⟨h1,o,ho,hafter⟩:=mem_ready.1 hi;have hlt:i<ops.size:=(Bf.1 ho).1;have hnE:¬(listed.getD i false=true):=by
    rw[AV]at h1 ⊢;rw[A4 DB]at h1 ⊢;simp only[Option.getD_some]at h1 ⊢;rw[h1];simp
   have hedge:∀e∈wV o,listed.getD e false=true:=by
    intro e he;unfold wV at he;rw[Ar]at he;obtain⟨x,hx,rfl⟩:=he;rw[Bi]at hx;exact hafter x (B1.1 hx.1) hx.2
   have hdst:∀x,o.dst=some x->x<N:=by
    have:o∈ops:=by
     obtain⟨h,rfl⟩:=Bf.1 ho;exact C8 h
    exact hN o this
   have hiU:i∈U:=hcov i hlt (by simpa using hnE);have hset:∀j,(listed.setIfInBounds i true).getD j false=true<->j=i\/listed.getD j false=true:=by
    intro j;rw[AV,AV,CU]
    by_cases hji:i=j
    ·subst hji;simp[hsz,hlt]
    ·rw[if_neg hji];constructor
     ·exact .inr
     ·rintro(rfl | h)
      ·exact absurd rfl hji
      ·exact h
   have hpred:(λj=>(listed.setIfInBounds i true).getD j false=true)=(λj=>j=i\/listed.getD j false=true):=funext λj=>propext (hset j)
   have hcl':Qq ops (λj=>j=i\/listed.getD j false=true):=by
    intro j oj hj hoj e he;rcases hj with rfl | hj
    ·rw[ho]at hoj;cases hoj;exact .inr (hedge e he)
    ·exact .inr (hmid.closedE j oj hj hoj e he)
   -- what follows,whichever way operation i has been carried out
   have cont:∀(val':Nat->PV) (pre':List Nat) (row':Row) (Fp':Nat->PV) (p:PV) (S':Store) (C':Ctx) (w':World) (v:Value),
     Mid P r n ops ids Sb F0 K (λj=>j=i\/listed.getD j false=true) (z6 G o.dst p) S' val' pre' row' Fp'->Rel C' S' w' p v->Sim C' S' w'->Step C S w C' S' w' ->
     wpAnyIn (Fe r) n P .any ops Q' fuel (listed.setIfInBounds i true) (a.put o.dst v) w':=by
    intro val' pre' row' Fp' p S' C' w' v hmid' hrel hs hstep;refine ih _ (U.erase i) (z6 G o.dst p) S' C' w' _ val' pre' row' Fp' (by simp[hsz]) (by rw[C9 hiU,hU];rfl) ?_ (by rw[hpred];exact hmid') (st.put hstep hs hdst hrel) (by rw[Xd];exact hd) (step.trans hstep);intro j hj hjl;have hne:j≠i:=by
     intro e;have:=(hset j).2 (.inl e);rw[this]at hjl;cases hjl
    have hjl':listed.getD j false=false:=by
     cases hb:listed.getD j false with
     | false=>rfl
     | true=>have:=(hset j).2 (.inr hb);rw[this]at hjl;cases hjl
    exact(List.mem_erase_of_ne hne).2 (hcov j hj hjl')
   -- operation i has been looked at ahead
   have known:∀(pre:List Nat) (row:Row) (val:Nat->PV) (Fp:Nat->PV),i∈pre->Mid P r n ops ids Sb F0 K (λj=>listed.getD j false=true) G S val pre row Fp ->
     wpOpIn (Fe r) n P ops Q' i (wpAnyIn (Fe r) n P .any ops Q' fuel (listed.setIfInBounds i true)) a w:=by
    intro pre row val Fp hip hmid;obtain⟨o',ho',hev⟩:=hmid.evid i hip hnE;rw[ho]at ho';cases ho';have hsee:=WD R hmid.closedE hmid.frmE ho hnE hedge;unfold wpOpIn;rw[ho];dsimp only;have newmid:∀p,val i=p->Mid P r n ops ids Sb F0 K (λj=>j=i\/listed.getD j false=true) (z6 G o.dst p) S val pre row Fp:=λp hp =>
     ⟨hcl',hmid.closedP,WF R hmid.frmE ho hp (λ_ _=>rfl),hmid.frmP,λj hj=>hj.elim (λe=>e ▸ hip) (hmid.sub j),λj hj hn=>hmid.evid j hj (λh=>hn (.inr h)),hmid.px,hmid.row,hmid.t⟩
    rcases hev G hsee with ⟨e1,e2⟩ | ⟨e1,e2⟩
    ·rw[YI st e1];exact⟨λ_ _=>trivial,cont val pre row Fp _ S C w _ (newmid _ e2) (.sc _) st.sim (.refl _ _ _)⟩
    ·rw[YI st e1];refine e2 S hmid.t G (λ_ _=>rfl) C w a N st _ _ ?_;rintro v w' C' S' p ⟨rfl,rfl⟩ hrel hs hstep;exact cont val pre row Fp _ _ C' w' _ (newmid _ rfl) hrel hs hstep
   -- operation i is one that comes where operations may turn objects
   have chain:∀(pre:List Nat) (row:Row) (val:Nat->PV) (Fp:Nat->PV),row.chain=true->i ∉ pre->Mid P r n ops ids Sb F0 K (λj=>listed.getD j false=true) G S val pre row Fp ->
     wpOpIn (Fe r) n P ops Q' i (wpAnyIn (Fe r) n P .any ops Q' fuel (listed.setIfInBounds i true)) a w:=by
    intro pre row val Fp hch hip hmid;have hiedge:∀e∈wV o,e∈pre:=λe he=>hmid.sub e (hedge e he)
    have hready:Z7 ops pre i=true:=by
     unfold Z7;rw[ho];simp only[Ao,Az];exact⟨λe he=>by simpa using hiedge e he,by simpa using hip⟩
    obtain⟨rest,hrow,hx⟩:=ZiL ho hready row [] DC hch hmid.row hmid.px;have s1:=WD R hmid.closedE hmid.frmE ho hnE hedge;have s2:=WD R hmid.closedP hmid.frmP ho hip hiedge;have eq:=Zdm s1 s2;have newmid:∀(p:PV) (S':Store),PX P r n ops ids Sb rest (z6 Fp o.dst p) S' K->yH ids Sb S'->Mid P r n ops ids Sb F0 K (λj=>j=i\/listed.getD j false=true) (z6 G o.dst p) S' (λj=>if j=i then p else val j) (i :: pre) rest (z6 Fp o.dst p):=by
     intro p S' hp hag;have hvE:∀j,listed.getD j false=true->(λj=>if j=i then p else val j) j=val j:=λj hj=>if_neg (λ(e:j=i)=>hnE (e ▸ hj))
     have hvP:∀j,j∈pre->(λj=>if j=i then p else val j) j=val j:=λj hj=>if_neg (λ(e:j=i)=>hip (e ▸ hj))
     refine⟨hcl',?_,WF R hmid.frmE ho DC hvE,?_,?_,?_,hp,hrow,hag⟩
     ·intro j oj hj hoj e he;rw[Aw]at hj ⊢;rcases hj with rfl | hj
      ·rw[ho]at hoj;cases hoj;exact .inr (hiedge e he)
      ·exact .inr (hmid.closedP j oj hj hoj e he)
     ·have:=WF (val':=λj=>if j=i then p else val j) R hmid.frmP ho (p:=p) DC hvP;intro t;exact⟨λj oj hj hoj hd=>(this t).1 j oj (Aw.1 hj) hoj hd,λhno=>(this t).2 λj oj hj hoj=>hno j oj (Aw.2 hj) hoj⟩
     ·intro j hj;rw[Aw];exact hj.imp id (hmid.sub j)
     ·intro j hj hn;rw[Aw]at hj;rcases hj with hj | hj
      ·exact absurd (.inl hj) hn
      ·exact Zdo R hmid.closedP hvP hj (hmid.evid j hj (λh=>hn (.inr h)))
    unfold wpOpIn;rw[ho];dsimp only;rcases hx with ⟨e1,hx⟩ | ⟨e1,hx⟩
    ·rw[YI st ((WE eq).trans e1)];exact⟨λ_ _=>trivial,cont _ _ _ _ _ S C w _ (newmid _ S hx hmid.t) (.sc _) st.sim (.refl _ _ _)⟩
    ·rw[YI st ((WE eq).trans e1)];refine hx G (Zdn eq) C w a N st _ _ ?_;rintro v w' C' S' p ⟨hag,hp⟩ hrel hsim hstep;exact cont _ _ _ _ p S' C' w' v (newmid p S' hp hag) hrel hsim hstep
   -- the pure run is taken ahead until operation i has been met
   have adv:∀(row:Row) (pre:List Nat) (val:Nat->PV) (Fp:Nat->PV),Mid P r n ops ids Sb F0 K (λj=>listed.getD j false=true) G S val pre row Fp ->
     wpOpIn (Fe r) n P ops Q' i (wpAnyIn (Fe r) n P .any ops Q' fuel (listed.setIfInBounds i true)) a w:=by
    intro row
    induction row with
    | done =>
     intro pre val Fp hmid;have hrow:=hmid.row;simp only[xz,Az,AH]at hrow;exact known pre _ val Fp (by simpa using hrow i hlt) hmid
    | stop =>
     intro pre val Fp hmid
     by_cases hip:i∈pre
     ·exact known pre _ val Fp hip hmid
     ·exact chain pre _ val Fp rfl hip hmid
    | alt j r1 m _ _ =>
     intro pre val Fp hmid
     by_cases hip:i∈pre
     ·exact known pre _ val Fp hip hmid
     ·exact chain pre _ val Fp rfl hip hmid
    | pure j rest ihr =>
     intro pre val Fp hmid
     by_cases hip:i∈pre
     ·exact known pre _ val Fp hip hmid
     ·have hrow:=hmid.row;simp only[xz,Ao]at hrow;obtain⟨oj,hoj,_,_⟩:=WG hrow.1;rcases ZiK hoj hmid.px with ⟨e1,hx⟩ | ⟨e1,p,e2,hx⟩
      ·exact ihr _ _ _ (Zdp R hmid hoj hx (.inl ⟨e1,rfl⟩))
      ·exact ihr _ _ _ (Zdp R hmid hoj hx (.inr ⟨e1,e2⟩))
   grind
theorem WH{id:Nat}{ops:Array Oper}(ids:Option (List Nat))(row:Row)(hm:P.follows .mixedOrders=true)(hN:wy N ops=true)(hR:Qp ops=true)(hrow:xz ops [] [] row=true)
  (h:PX P r n ops ids S row F S (Q .normal)):PW P r n N (.region id ops true) Q F S:=by
 intro C w a st;have R:=ZiI hR;refine wpIn_region_any hm ?_;obtain⟨hs,hstep⟩:=st.sim.drew;have st':St r C S w.drew N F a:=⟨hs,st.size,λi=>(st.fr i).mono hstep,r.keep hstep st.v⟩;have hnone:∀j,(Array.replicate ops.size false).getD j false=false:=by
  intro j;rw[AV,Da];split<;>rfl
 refine ZiM (Q':=λe a' w'=>∃F' S' C',Q e F' S'/\St r C' S' w' N F' a'/\Defs w.heap.size a.defers C' S' w' a'.defers/\Step C S w C' S' w') (WB hN) R (ids:=ids) (Sb:=S) (F0:=F) (K:=Q .normal) (C0:=C) (S0:=S) (w0:=w) (ds:=a.defers)
  (λF' S' C' w' a' hk hst hd hst2=>⟨F',S',C',hk,hst,.of_eq hd,hst2⟩) ops.size _ (List.range ops.size) F S C w.drew a (λ_=>.junk) [] row F DC DC (λi hi _=>AH.2 hi) ?_ st' rfl hstep
 have hno:∀j,¬((Array.replicate ops.size false).getD j false=true):=λj h=>by simp_all
 refine⟨λj o hj=>absurd hj (hno j),(λj o hj=>nomatch hj),?_,?_,λj hj=>absurd hj (hno j),(λj hj=>nomatch hj),h,hrow,?_⟩
 ·exact λt=>⟨λj o hj=>absurd hj (hno j),λ_=>rfl⟩
 ·exact λt=>⟨(λj o hj=>nomatch hj),λ_=>rfl⟩
 ·cases ids with
  | none=>rfl
  | some l=>exact λ_ _=>rfl
end
end Go.Proofs.YtcocagkbfpgmiaaGreatDoor.Pv
