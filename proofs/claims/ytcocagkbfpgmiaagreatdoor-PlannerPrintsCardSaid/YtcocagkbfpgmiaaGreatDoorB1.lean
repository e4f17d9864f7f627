/- Part of a proof, packed. -/
import Derived.Test.YtcocagkbfpgmiaaGreatDoorCards
import Derived.Test.YtcocagkbfpgmiaaGreatDoorTie
import Derived.SevenTiedAt
import Derived.Lay
import Derived.PinnedBridge
import Derived.WalkKit
import Derived.OrdersIn
import Derived.ControlIn
import Derived.Laws.StructEq
import Derived.RangeFuncCalls
import Derived.RangeFuncRecord
import Derived.RangeFuncSeq
import Derived.Lib.Hide
import Derived.Test.YtcocagkbfpgmiaaGreatDoorRows
import Derived.ProofKit
import Derived.Shelf.Strings.Builder1
import Derived.Shelf.Strings.Builder2
import Derived.Shelf.Strings.OnBuilder
import Derived.Shelf.Small.Bits
import Derived.Shelf.Small.Wraps
import Derived.Shelf.Strings.BuilderF
import Derived.Shelf.Strings.BuilderK
import Derived.Shelf.Utf8.RuneCount
import Derived.Shelf.Strings.Builder2Cap
import Derived.Shelf.Strconv.Itoa0
import Derived.Shelf.Strings.Search1
import Derived.Shelf.Strings.Search2
import Derived.Shelf.Strings.Search3
import Derived.Shelf.Strings.Cut
import Derived.Shelf.Strings.Count
import Derived.Shelf.LaysM
import Derived.Shelf.Strings.Shaped
import Derived.Shelf.Sort.Plain
import Derived.Shelf.Strings.Split
import Derived.Shelf.Strings.SplitShaped
import Derived.Shelf.Unicode.Decode
import Derived.Shelf.Strings.RuneCount
import Derived.Shelf.Strings.Explode
import Derived.Shelf.Bits.Mul64
import Derived.Shelf.Unicode.DecodeSlow
import Derived.Shelf.Unicode.DecodeAny
import Derived.Shelf.Strings.BuilderCap
import Derived.Shelf.Slices.Equal
import Derived.Ground.Names2Prog
import Derived.Shelf.Slices.SearchI
import Derived.Shelf.Slices.In.SortNone
import Derived.Shelf.Slices.Empties
import Derived.Shelf.Slices.Empties2
import Derived.Ground.SlsfProg
import Derived.Shelf.SlSortCmp.Insertion
import Derived.Shelf.SlSortCmp.SiftDown1
import Derived.Shelf.SlSortCmp.HeapSort1
import Derived.Shelf.SlSortCmp.Insertion1
import Derived.Shelf.SlSortCmp.Median1
import Derived.Shelf.SlSortCmp.Pivot1
import Derived.Shelf.SlSortCmp.ReverseRange1
import Derived.Shelf.SlSortCmp.PartialInsertion1
import Derived.Shelf.SlSortCmp.PartitionEqual1
import Derived.Shelf.SlSortCmp.Partition1
import Derived.Shelf.SlSortCmp.Pdq1
import Derived.Shelf.SlSortCmp.Whole1
import Derived.Shelf.SlSortCmp.NoneTotal
import Derived.Test.YtcocagkbfpgmiaaGreatDoorProg
import Derived.Sort.OwnSortedInts
import Derived.Laws.CopyRow
import Derived.Laws.IdiomCopy
import Derived.Laws.Externs
import Derived.Shelf.Spec.SlicesInsertGrow
import Derived.Shelf.Spec.SlicesGrow
import Derived.Lib.QuietBelow
import Derived.Lib.SliceRun
import Derived.Lib.SlicesDelete
import Derived.Deep.RegionLaw
import Derived.WalkSmall
import Derived.Laws.BytesArg
import Derived.Lib.Strings
import Derived.Lib.SplitLaws
import Derived.OpenShut
open Go.Proofs.Tryz
set_option maxRecDepth 100000
set_option maxHeartbeats 3200000
namespace Go.Proofs.YtcocagkbfpgmiaaGreatDoor
theorem DO{p:Prop}(h:p:=by omega):p:=h
theorem DP{p:Prop}(h:p:=by simp):p:=h
theorem DQ{p:Prop}(h:p:=by simp;rfl):p:=h
theorem DR{p:Prop}(h:p:=by kernel_rfl):p:=h
theorem DT{p:Prop}(h:p:=by simp;omega):p:=h
theorem DU{p:Prop}(h:p:=by rfl):p:=h
theorem DV{p:Prop}(h:p:=by decide):p:=h
theorem DW{p:Prop}(h:p:=by grind):p:=h
theorem DX{p:Prop}(h:p:=by simp_all):p:=h
open Go Go.Proofs
abbrev Aa:=@List.getD_eq_getElem?_getD
abbrev Ab:=@List.mem_of_getElem?
abbrev Ac:=@List.getElem?_eq_getElem
abbrev Ad:=@List.getElem?_eq_some_iff
abbrev Ae:=@List.length_cons
abbrev Af:=@List.take_of_length_le
abbrev Ag:=@Nat.le_refl
abbrev Ah:=@List.length_nil
abbrev Ai:=@List.take_length
abbrev Aj:=@List.getElem?_map
abbrev Ak:=@List.getElem?_append_right
abbrev Al:=@List.mem_map
abbrev Am:=@List.length_append
abbrev An:=@Result.andThen_ok
abbrev Ao:=@List.getElem?_eq_none
abbrev Ap:=@Option.map_eq_some_iff
abbrev Aq:=@List.flatMap_append
abbrev Ar:=@Bool.and_eq_true
abbrev As:=@List.getElem?_append_left
abbrev Au:=@List.mem_cons
abbrev Av:=@List.eq_nil_of_length_eq_zero
abbrev Aw:=@List.all_eq_true
abbrev Ax:=@List.length_take
abbrev Ay:=@Int.eq_ofNat_of_zero_le
abbrev Az:=@List.flatMap_cons
abbrev AA:=@IntKind.wrap_i64
abbrev AB:=@List.mem_append
abbrev AC:=@List.take_add_one
abbrev AD:=@List.map_cons
abbrev AE:=@List.set_eq_take_append_cons_drop
abbrev AF:=@Nat.le_trans
abbrev AG:=@List.getElem?_toArray
abbrev AH:=@List.append_nil
abbrev AI:=@Nat.add_sub_cancel_left
abbrev AJ:=@List.drop_eq_getElem_cons
abbrev AK:=@List.mem_range
abbrev AL:=@List.getElem?_take_of_lt
abbrev AM:=@List.map_congr_left
abbrev AN:=@Int.toNat_natCast
abbrev AO:=@List.range_succ
abbrev AP:=@List.getElem?_drop
abbrev AQ:=@List.nil_append
abbrev AR:=@List.take_succ_eq_append_getElem
abbrev AS:=@Nat.zero_add
abbrev AT:=@Bool.false_eq_true
abbrev AU:=@List.mem_singleton
abbrev AV:=@List.set_cons_succ
abbrev AW:=@List.getElem?_set_self
abbrev AX:=@List.drop_of_length_le
abbrev AY:=@Array.getElem?_eq_getElem
abbrev AZ:=@List.getElem?_set_ne
abbrev A3:=@List.ext_getElem
abbrev A4:=@Option.map_some
abbrev A5:=@List.foldl_cons
abbrev A6:=@Array.getD_eq_getD_getElem?
abbrev A7:=@List.set_cons_zero
abbrev A8:=@List.ext_getElem?
abbrev A9:=@List.not_mem_nil
abbrev Ba:=@List.length_singleton
abbrev Bb:=@Array.getElem?_eq_some_iff
abbrev Bc:=@List.getElem_mem
abbrev Bd:=@List.getElem?_cons_zero
abbrev Be:=@Int.tmod_eq_emod_of_nonneg
abbrev Bf:=@Nat.min_eq_left
abbrev Bg:=@List.getElem?_cons_succ
abbrev Bh:=@Nat.lt_or_ge
abbrev Bi:=@List.mem_iff_getElem?
abbrev Bj:=@Nat.lt_of_lt_of_le
abbrev Bk:=@List.pairwise_cons
abbrev Bl:=@List.getElem?_range
abbrev Bm:=@List.all_eq_false
abbrev Bn:=@List.mem_filter
abbrev Bo:=@List.length_drop
abbrev Bp:=@List.map_nil
abbrev Bq:=@Array.getElem?_append_left
abbrev Br:=@World.putObj_heap_other
abbrev Bs:=@List.length_pos_iff
abbrev Bt:=@List.mem_flatten
abbrev Bu:=@List.getElem?_set
abbrev Bv:=@List.mem_or_eq_of_mem_set
abbrev Bw:=@List.pairwise_iff_getElem
abbrev Bx:=@List.foldl_append
abbrev By:=@Nat.add_zero
abbrev Bz:=@Nat.sub_self
abbrev BA:=@List.mem_of_mem_take
abbrev BB:=@Array.getElem?_modify
abbrev BC:=@List.replicate_succ
abbrev BD:=@List.all_append
abbrev BE:=@List.set_append_right
abbrev BF:=@List.length_filter_le
abbrev BG:=@List.flatten_cons
abbrev BH:=@Nat.pow_le_pow_right
abbrev BI:=@List.getElem?_take
abbrev BJ:=@List.length_set
abbrev BK:=@Array.toList_inj
abbrev BL:=@List.mem_flatMap
abbrev BM:=@List.take_append_of_le_length
abbrev BN:=@List.drop_length
abbrev BO:=@Nat.mul_one
abbrev BP:=@List.size_toArray
abbrev BQ:=@Array.getElem?_append_right
abbrev BR:=@List.sum_cons
abbrev BS:=@Int.tdiv_eq_ediv_of_nonneg
abbrev BT:=@List.length_eraseIdx_of_lt
abbrev BU:=@List.drop_eq_nil_of_le
abbrev BV:=@Array.getElem?_extract
abbrev BW:=@World.putObj_heap_same
abbrev BX:=@List.map_map
abbrev BY:=@List.filterMap_append
abbrev BZ:=@List.length_replicate
abbrev B0:=@Array.getElem?_setIfInBounds_self_of_lt
abbrev B1:=@Nat.eq_zero_or_pos
abbrev B3:=@Nat.pos_of_ne_zero
abbrev B4:=@Option.isSome_iff_exists
abbrev B5:=@Nat.add_sub_cancel
abbrev B6:=@List.filter_append
abbrev B7:=@List.drop_append_of_le_length
abbrev B8:=@List.any_eq_true
abbrev B9:=@Array.mem_toList_iff
abbrev Ca:=@List.getElem?_of_mem
abbrev Cb:=@Nat.mul_le_mul_left
abbrev Cc:=@List.mergeSort_perm
abbrev Cd:=@List.getElem_map
abbrev Cf:=@List.filter_cons
abbrev Cg:=@List.mem_filterMap
abbrev Ch:=@List.getElem_range
abbrev Ci:=@List.mem_cons_self
abbrev Cj:=@Nat.zero_le
abbrev Ck:=@List.mem_of_mem_drop
abbrev Cl:=@Nat.mul_le_mul_right
abbrev Cm:=@Bool.not_eq_true'
abbrev Cn:=@Array.size_append
abbrev Co:=@Nat.le_succ_of_le
abbrev Cp:=@List.all_cons
abbrev Cq:=@List.length_eq_zero_iff
abbrev Cr:=@Int.toNat_of_nonneg
abbrev Cs:=@List.drop_append
abbrev Ct:=@List.flatMap_nil
abbrev Cu:=@Bool.false_and
abbrev Cv:=@Nat.testBit_lt_two_pow
abbrev Cw:=@Nat.le_of_eq
abbrev Cx:=@List.contains_iff_mem
abbrev Cy:=@List.mem_cons_of_mem
abbrev Cz:=@Nat.pow_lt_pow_right
abbrev CA:=@Bool.and_false
abbrev CB:=@List.getElem_set
abbrev CC:=@Nat.testBit_two_pow
abbrev CD:=@List.length_filterMap_le
abbrev CE:=@Bool.and_true
abbrev CF:=@Nat.le_mul_of_pos_right
abbrev CG:=@List.pairwise_mergeSort
abbrev CH:=@List.nodup_cons
abbrev CI:=@Option.isSome_none
abbrev CJ:=@Bool.true_and
abbrev CK:=@Nat.lt_irrefl
abbrev CL:=@Nat.testBit_eq_decide_div_mod_eq
abbrev CM:=@List.range_succ_eq_map
abbrev CN:=@List.filter_eq_nil_iff
abbrev CO:=@Nat.le_succ
abbrev CP:=@List.any_eq_false
abbrev CR:=@List.pairwise_map
abbrev CU:=@List.eraseIdx_eq_take_drop_succ
abbrev CV:=@Array.getElem?_setIfInBounds_ne
abbrev CW:=@Int.mul_nonneg
abbrev CX:=@Int.mul_le_mul
abbrev CY:=@Nat.zero_mul
abbrev CZ:=@List.perm_append_comm
abbrev C4:=@Bool.and_eq_false_iff
abbrev C5:=@List.singleton_append
abbrev C6:=@Option.ite_none_right_eq_some
abbrev C7:=@Nat.mod_eq_of_lt
abbrev C8:=@Nat.le_add_right
abbrev C9:=@Nat.eq_of_testBit_eq
abbrev Da:=@List.replicate_succ'
abbrev Db:=@Array.getElem?_setIfInBounds
abbrev Dc:=@Bool.or_eq_true
abbrev Dd:=@List.take_succ_cons
abbrev De:=@Int.le_refl
abbrev Df:=@List.map_id
abbrev Dg:=@List.perm_ext_iff_of_nodup
abbrev Dh:=@List.take_zero
abbrev Di:=@Bool.not_false
abbrev Dj:=@List.range_add
abbrev Dk:=@Nat.testBit_or
abbrev Dl:=@List.drop_zero
abbrev Dm:=@Array.range_zero'
abbrev Dn:=@Array.getElem_mem
abbrev Do:=@List.length_erase_of_mem
abbrev Dp:=@Array.getElem?_replicate
abbrev Dq:=@List.nodup_append
abbrev Dr:=@List.reverse_cons
abbrev Ds:=@List.take_nil
abbrev Dt:=@List.map_toArray
abbrev Du:=@Option.bind_some
abbrev Dv:=@List.suffix_refl
abbrev Dw:=@Nat.lt_of_not_le
abbrev Dx:=@List.getElem?_eraseIdx
abbrev Dy:=@List.getElem_replicate
abbrev Dz:=@Array.getElem?_eq_none
abbrev DA:=@List.length_pos_of_mem
abbrev DB:=@List.all_nil
abbrev DC:=@Array.map_empty
abbrev DD:=@List.take_left'
abbrev DE:=@Nat.le_of_lt
abbrev DF:=@Bool.eq_iff_iff
abbrev DG:=@Int.ne_of_lt
abbrev DH:=@World.alloc_eq
abbrev DI:=@List.take_take
abbrev DJ:=@Nat.min_def
abbrev DK:=@Nat.one_mul
abbrev DL:=@Int.not_lt
abbrev DM:=@Nat.sub_zero
abbrev DN:=@Nat.pow_succ
end Go.Proofs.YtcocagkbfpgmiaaGreatDoor
namespace Go.Proofs
open Go.Shelf
def Tryz.lays156_ren:Go.Shelf.Ren:=⟨fun | 156=>97 | 165=>133 | 166=>61 | 169=>64 | 240=>98 | 241=>188 | 276=>134 | 277=>221 | n=>n,fun | 31=>81 | 9=>9 | 3=>3 | 4=>4 | 0=>0 | 20=>20 | 72=>113 | 76=>116 | 70=>110 | 37=>111 | 75=>115 | 127=>161 | 164=>191 | 5=>5 | 80=>120 | n=>n,fun | n=>n⟩
theorem Tryz.lays156:Go.Proofs.Lays.n156 prog Tryz.lays156_ren:={
 mixed:=by kernel_rfl
 f156:=Tryz.func97.trans (congrArg some (by kernel_rfl))
 f165:=Tryz.func133.trans (congrArg some (by kernel_rfl))
 f166:=Tryz.func61.trans (congrArg some (by kernel_rfl))
 f169:=Tryz.func64.trans (congrArg some (by kernel_rfl))
 f240:=Tryz.func98.trans (congrArg some (by kernel_rfl))
 f241:=Tryz.func188.trans (congrArg some (by kernel_rfl))
 f276:=Tryz.func134.trans (congrArg some (by kernel_rfl))
 f277:=Tryz.func221.trans (congrArg some (by kernel_rfl))
 t0:=Tryz.underlying0
 a0:=Tryz.isAgg0
 z0:=Tryz.sizeOf0
 v0:=Tryz.zeroValue0
 t3:=Tryz.underlying3
 a3:=Tryz.isAgg3
 z3:=Tryz.sizeOf3
 v3:=Tryz.zeroValue3
 t4:=Tryz.underlying4
 a4:=Tryz.isAgg4
 z4:=Tryz.sizeOf4
 v4:=Tryz.zeroValue4
 t9:=Tryz.underlying9
 a9:=Tryz.isAgg9
 z9:=Tryz.sizeOf9
 v9:=Tryz.zeroValue9
 t20:=Tryz.underlying20
 a20:=Tryz.isAgg20
 z20:=Tryz.sizeOf20
 v20:=Tryz.zeroValue20
 t31:=Tryz.underlying81
 a31:=Tryz.isAgg81
 z31:=Tryz.sizeOf81
 v31:=Tryz.zeroValue81
 t37:=Tryz.underlying111
 a37:=Tryz.isAgg111
 z37:=Tryz.sizeOf111
 v37:=Tryz.zeroValue111
 t70:=Tryz.underlying110
 a70:=Tryz.isAgg110
 z70:=Tryz.sizeOf110
 v70:=Tryz.zeroValue110
 t72:=Tryz.underlying113
 a72:=Tryz.isAgg113
 z72:=Tryz.sizeOf113
 v72:=Tryz.zeroValue113
 t75:=Tryz.underlying115
 a75:=Tryz.isAgg115
 z75:=Tryz.sizeOf115
 v75:=Tryz.zeroValue115
 t76:=Tryz.underlying116
 a76:=Tryz.isAgg116
 z76:=Tryz.sizeOf116
 v76:=Tryz.zeroValue116
 t127:=Tryz.underlying161
 a127:=Tryz.isAgg161
 z127:=Tryz.sizeOf161
 v127:=Tryz.zeroValue161
 t164:=Tryz.underlying191
 a164:=Tryz.isAgg191
 z164:=Tryz.sizeOf191
 v164:=Tryz.zeroValue191 }
theorem Tryz.Builder_Extra_156:Builder.Extra prog Tryz.lays156_ren:={
 sizeBuilder:=by kernel_rfl
 liesBuilder:=by kernel_rfl
 t5:=Tryz.underlying5
 a5:=Tryz.isAgg5
 z5:=Tryz.sizeOf5
 v5:=Tryz.zeroValue5
 infoByte:=by kernel_rfl
 cellsByte:=by kernel_rfl
 sizeByte:=by kernel_rfl
 neB5:=by decide }
def Tryz.lays219_ren:Go.Shelf.Ren:=⟨fun | 219=>222 | 217=>253 | 225=>254 | 224=>255 | 267=>256 | 266=>293 | 314=>294 | n=>n,fun | 9=>9 | 3=>3 | 4=>4 | 5=>5 | 46=>228 | 146=>294 | 51=>293 | n=>n,fun | 1=>0 | n=>n⟩
theorem Tryz.lays219:Go.Proofs.Lays.n219 prog Tryz.lays219_ren:={
 mixed:=by kernel_rfl
 f217:=Tryz.func253.trans (congrArg some (by kernel_rfl))
 f219:=Tryz.func222.trans (congrArg some (by kernel_rfl))
 f224:=Tryz.func255.trans (congrArg some (by kernel_rfl))
 f225:=Tryz.func254.trans (congrArg some (by kernel_rfl))
 f266:=Tryz.func293.trans (congrArg some (by kernel_rfl))
 f267:=Tryz.func256.trans (congrArg some (by kernel_rfl))
 f314:=Tryz.func294.trans (congrArg some (by kernel_rfl))
 t3:=Tryz.underlying3
 a3:=Tryz.isAgg3
 z3:=Tryz.sizeOf3
 v3:=Tryz.zeroValue3
 t4:=Tryz.underlying4
 a4:=Tryz.isAgg4
 z4:=Tryz.sizeOf4
 v4:=Tryz.zeroValue4
 t5:=Tryz.underlying5
 a5:=Tryz.isAgg5
 z5:=Tryz.sizeOf5
 v5:=Tryz.zeroValue5
 t9:=Tryz.underlying9
 a9:=Tryz.isAgg9
 z9:=Tryz.sizeOf9
 v9:=Tryz.zeroValue9
 t46:=Tryz.underlying228
 a46:=Tryz.isAgg228
 z46:=Tryz.sizeOf228
 v46:=Tryz.zeroValue228
 t51:=Tryz.underlying293
 a51:=Tryz.isAgg293
 z51:=Tryz.sizeOf293
 v51:=Tryz.zeroValue293
 t146:=Tryz.underlying294
 a146:=Tryz.isAgg294
 z146:=Tryz.sizeOf294
 v146:=Tryz.zeroValue294
 g1:=by kernel_rfl }
open Go.RowKit Go.Lib in
theorem Tryz.stringslite_Index_one(s:ByteArray)(c:UInt8)(w:World):
  Calls prog 222 #[.string s,.string ⟨#[c]⟩] w λe w'=>e=.returned (.int .i64 (Lib.indexByte s.data.toList c))/\w'=w:=Any.stringslite_Index_one Tryz.lays219 s c w
def Tryz.lays143_ren:Go.Shelf.Ren:=⟨fun | 143=>225 | 219=>222 | 217=>253 | 225=>254 | 224=>255 | 267=>256 | 266=>293 | 314=>294 | n=>n,fun | 9=>9 | 3=>3 | 4=>4 | 5=>5 | 46=>228 | 146=>294 | 51=>293 | n=>n,fun | 1=>0 | n=>n⟩
theorem Tryz.lays143:Go.Proofs.Lays.n143 prog Tryz.lays143_ren:={
 mixed:=by kernel_rfl
 f143:=Tryz.func225.trans (congrArg some (by kernel_rfl))
 f217:=Tryz.func253.trans (congrArg some (by kernel_rfl))
 f219:=Tryz.func222.trans (congrArg some (by kernel_rfl))
 f224:=Tryz.func255.trans (congrArg some (by kernel_rfl))
 f225:=Tryz.func254.trans (congrArg some (by kernel_rfl))
 f266:=Tryz.func293.trans (congrArg some (by kernel_rfl))
 f267:=Tryz.func256.trans (congrArg some (by kernel_rfl))
 f314:=Tryz.func294.trans (congrArg some (by kernel_rfl))
 t3:=Tryz.underlying3
 a3:=Tryz.isAgg3
 z3:=Tryz.sizeOf3
 v3:=Tryz.zeroValue3
 t4:=Tryz.underlying4
 a4:=Tryz.isAgg4
 z4:=Tryz.sizeOf4
 v4:=Tryz.zeroValue4
 t5:=Tryz.underlying5
 a5:=Tryz.isAgg5
 z5:=Tryz.sizeOf5
 v5:=Tryz.zeroValue5
 t9:=Tryz.underlying9
 a9:=Tryz.isAgg9
 z9:=Tryz.sizeOf9
 v9:=Tryz.zeroValue9
 t46:=Tryz.underlying228
 a46:=Tryz.isAgg228
 z46:=Tryz.sizeOf228
 v46:=Tryz.zeroValue228
 t51:=Tryz.underlying293
 a51:=Tryz.isAgg293
 z51:=Tryz.sizeOf293
 v51:=Tryz.zeroValue293
 t146:=Tryz.underlying294
 a146:=Tryz.isAgg294
 z146:=Tryz.sizeOf294
 v146:=Tryz.zeroValue294
 g1:=by kernel_rfl }
open Go.RowKit Go.Lib in
theorem Tryz.strings_Index_one(s:ByteArray)(c:UInt8)(w:World):
  Calls prog 225 #[.string s,.string ⟨#[c]⟩] w λe w'=>e=.returned (.int .i64 (Lib.indexByte s.data.toList c))/\w'=w:=Any.strings_Index_one Tryz.lays143 s c w
def Tryz.lays138_ren:Go.Shelf.Ren:=⟨fun | 138=>224 | 195=>257 | 218=>259 | 143=>225 | 219=>222 | 217=>253 | 225=>254 | 224=>255 | 267=>256 | 266=>293 | 314=>294 | n=>n,fun | 9=>9 | 3=>3 | 4=>4 | 5=>5 | 0=>0 | 46=>228 | 146=>294 | 51=>293 | n=>n,fun | 1=>0 | n=>n⟩
theorem Tryz.lays138:Go.Proofs.Lays.n138 prog Tryz.lays138_ren:={
 mixed:=by kernel_rfl
 f138:=Tryz.func224.trans (congrArg some (by kernel_rfl))
 f143:=Tryz.func225.trans (congrArg some (by kernel_rfl))
 f195:=Tryz.func257.trans (congrArg some (by kernel_rfl))
 f217:=Tryz.func253.trans (congrArg some (by kernel_rfl))
 f218:=Tryz.func259.trans (congrArg some (by kernel_rfl))
 f219:=Tryz.func222.trans (congrArg some (by kernel_rfl))
 f224:=Tryz.func255.trans (congrArg some (by kernel_rfl))
 f225:=Tryz.func254.trans (congrArg some (by kernel_rfl))
 f266:=Tryz.func293.trans (congrArg some (by kernel_rfl))
 f267:=Tryz.func256.trans (congrArg some (by kernel_rfl))
 f314:=Tryz.func294.trans (congrArg some (by kernel_rfl))
 t0:=Tryz.underlying0
 a0:=Tryz.isAgg0
 z0:=Tryz.sizeOf0
 v0:=Tryz.zeroValue0
 t3:=Tryz.underlying3
 a3:=Tryz.isAgg3
 z3:=Tryz.sizeOf3
 v3:=Tryz.zeroValue3
 t4:=Tryz.underlying4
 a4:=Tryz.isAgg4
 z4:=Tryz.sizeOf4
 v4:=Tryz.zeroValue4
 t5:=Tryz.underlying5
 a5:=Tryz.isAgg5
 z5:=Tryz.sizeOf5
 v5:=Tryz.zeroValue5
 t9:=Tryz.underlying9
 a9:=Tryz.isAgg9
 z9:=Tryz.sizeOf9
 v9:=Tryz.zeroValue9
 t46:=Tryz.underlying228
 a46:=Tryz.isAgg228
 z46:=Tryz.sizeOf228
 v46:=Tryz.zeroValue228
 t51:=Tryz.underlying293
 a51:=Tryz.isAgg293
 z51:=Tryz.sizeOf293
 v51:=Tryz.zeroValue293
 t146:=Tryz.underlying294
 a146:=Tryz.isAgg294
 z146:=Tryz.sizeOf294
 v146:=Tryz.zeroValue294
 g1:=by kernel_rfl }
open Go.RowKit Go.Lib in
theorem Tryz.strings_Count_one(s:ByteArray)(c:UInt8)(w:World):
  Calls prog 224 #[.string s,.string ⟨#[c]⟩] w λe w'=>e=.returned (.int .i64 (Lib.countByte s.data.toList c))/\w'=w:=Any.strings_Count_one Tryz.lays138 s c w
def Tryz.lays189_ren:Go.Shelf.Ren:=⟨fun | 189=>196 | 125=>241 | 257=>240 | 128=>272 | 129=>273 | 294=>263 | 295=>264 | 296=>265 | 297=>266 | 298=>267 | 299=>268 | 216=>269 | 300=>270 | 301=>271 | 328=>298 | 329=>299 | 330=>300 | 331=>301 | 332=>302 | 215=>303 | 343=>330 | n=>n,fun | 28=>26 | 3=>3 | 46=>228 | 0=>0 | 51=>293 | 53=>98 | 4=>4 | 183=>311 | 182=>310 | 131=>124 | 5=>5 | 9=>9 | 218=>345 | 222=>167 | 228=>381 | 229=>219 | n=>n,fun | n=>n⟩
theorem Tryz.lays189:Go.Proofs.Lays.n189 prog Tryz.lays189_ren:={
 mixed:=by kernel_rfl
 f125:=Tryz.func241.trans (congrArg some (by kernel_rfl))
 f128:=Tryz.func272.trans (congrArg some (by kernel_rfl))
 f129:=Tryz.func273.trans (congrArg some (by kernel_rfl))
 f189:=Tryz.func196.trans (congrArg some (by kernel_rfl))
 f215:=Tryz.func303.trans (congrArg some (by kernel_rfl))
 f216:=Tryz.func269.trans (congrArg some (by kernel_rfl))
 f257:=Tryz.func240.trans (congrArg some (by kernel_rfl))
 f294:=Tryz.func263.trans (congrArg some (by kernel_rfl))
 f295:=Tryz.func264.trans (congrArg some (by kernel_rfl))
 f296:=Tryz.func265.trans (congrArg some (by kernel_rfl))
 f297:=Tryz.func266.trans (congrArg some (by kernel_rfl))
 f298:=Tryz.func267.trans (congrArg some (by kernel_rfl))
 f299:=Tryz.func268.trans (congrArg some (by kernel_rfl))
 f300:=Tryz.func270.trans (congrArg some (by kernel_rfl))
 f301:=Tryz.func271.trans (congrArg some (by kernel_rfl))
 f328:=Tryz.func298.trans (congrArg some (by kernel_rfl))
 f329:=Tryz.func299.trans (congrArg some (by kernel_rfl))
 f330:=Tryz.func300.trans (congrArg some (by kernel_rfl))
 f331:=Tryz.func301.trans (congrArg some (by kernel_rfl))
 f332:=Tryz.func302.trans (congrArg some (by kernel_rfl))
 f343:=Tryz.func330.trans (congrArg some (by kernel_rfl))
 t0:=Tryz.underlying0
 a0:=Tryz.isAgg0
 z0:=Tryz.sizeOf0
 v0:=Tryz.zeroValue0
 t3:=Tryz.underlying3
 a3:=Tryz.isAgg3
 z3:=Tryz.sizeOf3
 v3:=Tryz.zeroValue3
 t4:=Tryz.underlying4
 a4:=Tryz.isAgg4
 z4:=Tryz.sizeOf4
 v4:=Tryz.zeroValue4
 t5:=Tryz.underlying5
 a5:=Tryz.isAgg5
 z5:=Tryz.sizeOf5
 v5:=Tryz.zeroValue5
 t9:=Tryz.underlying9
 a9:=Tryz.isAgg9
 z9:=Tryz.sizeOf9
 v9:=Tryz.zeroValue9
 t28:=Tryz.underlying26
 a28:=Tryz.isAgg26
 z28:=Tryz.sizeOf26
 v28:=Tryz.zeroValue26
 t46:=Tryz.underlying228
 a46:=Tryz.isAgg228
 z46:=Tryz.sizeOf228
 v46:=Tryz.zeroValue228
 t51:=Tryz.underlying293
 a51:=Tryz.isAgg293
 z51:=Tryz.sizeOf293
 v51:=Tryz.zeroValue293
 t53:=Tryz.underlying98
 a53:=Tryz.isAgg98
 z53:=Tryz.sizeOf98
 v53:=Tryz.zeroValue98
 t131:=Tryz.underlying124
 a131:=Tryz.isAgg124
 z131:=Tryz.sizeOf124
 v131:=Tryz.zeroValue124
 t182:=Tryz.underlying310
 a182:=Tryz.isAgg310
 z182:=Tryz.sizeOf310
 v182:=Tryz.zeroValue310
 t183:=Tryz.underlying311
 a183:=Tryz.isAgg311
 z183:=Tryz.sizeOf311
 v183:=Tryz.zeroValue311
 t218:=Tryz.underlying345
 a218:=Tryz.isAgg345
 z218:=Tryz.sizeOf345
 v218:=Tryz.zeroValue345
 t222:=Tryz.underlying167
 a222:=Tryz.isAgg167
 z222:=Tryz.sizeOf167
 v222:=Tryz.zeroValue167
 t228:=Tryz.underlying381
 a228:=Tryz.isAgg381
 z228:=Tryz.sizeOf381
 v228:=Tryz.zeroValue381
 t229:=Tryz.underlying219
 a229:=Tryz.isAgg219
 z229:=Tryz.sizeOf219
 v229:=Tryz.zeroValue219 }
open Go.Sort Go.RowKit in
theorem Tryz.slices_Sort_int(a off cap:Nat)(zs:List Int)(w:World)(d:Holds (Value.int .i64) w a off zs.toArray)(b:a<w.heap.size)(c:zs.length<4611686018427387904):
  Calls prog 196 #[.slice (some ⟨a,off,none⟩) zs.length cap] w λe w' =>
   e=.returned (.tuple #[])/\∃n os,w'=grow (putRow (Value.int .i64) (Sort.ahead w n) a off (zs.mergeSort λx y=>decide (x<=y)).toArray) os:=Any.slices_Sort_int Tryz.lays189 a off cap zs w d b c
def Tryz.lays221_ren:Go.Shelf.Ren:=⟨fun | 221=>190 | 268=>223 | 138=>224 | 143=>225 | 195=>257 | 197=>258 | 218=>259 | 219=>222 | 260=>295 | 217=>253 | 225=>254 | 224=>255 | 267=>256 | 266=>293 | 314=>294 | n=>n,fun | 9=>9 | 3=>3 | 31=>81 | 4=>4 | 0=>0 | 105=>307 | 21=>21 | 5=>5 | 46=>228 | 119=>377 | 139=>380 | 138=>379 | 146=>294 | 51=>293 | n=>n,fun | 1=>0 | 3=>1 | 4=>2 | n=>n⟩
theorem Tryz.lays221:Go.Proofs.Lays.n221 prog Tryz.lays221_ren:={
 mixed:=by kernel_rfl
 f138:=Tryz.func224.trans (congrArg some (by kernel_rfl))
 f143:=Tryz.func225.trans (congrArg some (by kernel_rfl))
 f195:=Tryz.func257.trans (congrArg some (by kernel_rfl))
 f197:=Tryz.func258.trans (congrArg some (by kernel_rfl))
 f217:=Tryz.func253.trans (congrArg some (by kernel_rfl))
 f218:=Tryz.func259.trans (congrArg some (by kernel_rfl))
 f219:=Tryz.func222.trans (congrArg some (by kernel_rfl))
 f221:=Tryz.func190.trans (congrArg some (by kernel_rfl))
 f224:=Tryz.func255.trans (congrArg some (by kernel_rfl))
 f225:=Tryz.func254.trans (congrArg some (by kernel_rfl))
 f260:=Tryz.func295.trans (congrArg some (by kernel_rfl))
 f266:=Tryz.func293.trans (congrArg some (by kernel_rfl))
 f267:=Tryz.func256.trans (congrArg some (by kernel_rfl))
 f268:=Tryz.func223.trans (congrArg some (by kernel_rfl))
 f314:=Tryz.func294.trans (congrArg some (by kernel_rfl))
 t0:=Tryz.underlying0
 a0:=Tryz.isAgg0
 z0:=Tryz.sizeOf0
 v0:=Tryz.zeroValue0
 t3:=Tryz.underlying3
 a3:=Tryz.isAgg3
 z3:=Tryz.sizeOf3
 v3:=Tryz.zeroValue3
 t4:=Tryz.underlying4
 a4:=Tryz.isAgg4
 z4:=Tryz.sizeOf4
 v4:=Tryz.zeroValue4
 t5:=Tryz.underlying5
 a5:=Tryz.isAgg5
 z5:=Tryz.sizeOf5
 v5:=Tryz.zeroValue5
 t9:=Tryz.underlying9
 a9:=Tryz.isAgg9
 z9:=Tryz.sizeOf9
 v9:=Tryz.zeroValue9
 t21:=Tryz.underlying21
 a21:=Tryz.isAgg21
 z21:=Tryz.sizeOf21
 v21:=Tryz.zeroValue21
 t31:=Tryz.underlying81
 a31:=Tryz.isAgg81
 z31:=Tryz.sizeOf81
 v31:=Tryz.zeroValue81
 t46:=Tryz.underlying228
 a46:=Tryz.isAgg228
 z46:=Tryz.sizeOf228
 v46:=Tryz.zeroValue228
 t51:=Tryz.underlying293
 a51:=Tryz.isAgg293
 z51:=Tryz.sizeOf293
 v51:=Tryz.zeroValue293
 t105:=Tryz.underlying307
 a105:=Tryz.isAgg307
 z105:=Tryz.sizeOf307
 v105:=Tryz.zeroValue307
 t119:=Tryz.underlying377
 a119:=Tryz.isAgg377
 z119:=Tryz.sizeOf377
 t138:=Tryz.underlying379
 a138:=Tryz.isAgg379
 z138:=Tryz.sizeOf379
 v138:=Tryz.zeroValue379
 t139:=Tryz.underlying380
 a139:=Tryz.isAgg380
 z139:=Tryz.sizeOf380
 v139:=Tryz.zeroValue380
 t146:=Tryz.underlying294
 a146:=Tryz.isAgg294
 z146:=Tryz.sizeOf294
 v146:=Tryz.zeroValue294
 g1:=by kernel_rfl
 g3:=by kernel_rfl
 g4:=by kernel_rfl }
def Tryz.lays212_ren:Go.Shelf.Ren:=⟨fun | 212=>206 | 263=>244 | 264=>245 | n=>n,fun | 46=>228 | 51=>293 | 146=>294 | 53=>98 | 148=>296 | n=>n,fun | n=>n⟩
theorem Tryz.lays212:Go.Proofs.Lays.n212 prog Tryz.lays212_ren:={
 mixed:=by kernel_rfl
 f212:=Tryz.func206.trans (congrArg some (by kernel_rfl))
 f263:=Tryz.func244.trans (congrArg some (by kernel_rfl))
 f264:=Tryz.func245.trans (congrArg some (by kernel_rfl))
 t46:=Tryz.underlying228
 a46:=Tryz.isAgg228
 z46:=Tryz.sizeOf228
 v46:=Tryz.zeroValue228
 t51:=Tryz.underlying293
 a51:=Tryz.isAgg293
 z51:=Tryz.sizeOf293
 v51:=Tryz.zeroValue293
 t53:=Tryz.underlying98
 a53:=Tryz.isAgg98
 z53:=Tryz.sizeOf98
 v53:=Tryz.zeroValue98
 t146:=Tryz.underlying294
 a146:=Tryz.isAgg294
 z146:=Tryz.sizeOf294
 v146:=Tryz.zeroValue294
 t148:=Tryz.underlying296
 a148:=Tryz.isAgg296
 z148:=Tryz.sizeOf296
 v148:=Tryz.zeroValue296 }
open Go.RowKit Go.Lib in
theorem Tryz.bits_Mul(x y:Nat)(hx:x<18446744073709551616)(a:y<18446744073709551616)(w:World):
  Calls prog 206 #[.int .u64 x,.int .u64 y] w λe w'=>e=.returned (.tuple #[.int .u64 ((x*y / 18446744073709551616:Nat):Int),.int .u64 ((x*y % 18446744073709551616:Nat):Int)])/\w'=w:=Any.bits_Mul Tryz.lays212 x y hx a w
def Tryz.laysNm225_ren:Go.Shelf.Ren:=⟨fun | 25=>353 | 31=>269 | 32=>371 | 37=>303 | n=>n,fun | 22=>26 | 3=>3 | 4=>4 | 40=>228 | 0=>0 | n=>n,fun | n=>n⟩
theorem Tryz.laysNm225:Go.Proofs.Lays2.n25 prog Tryz.laysNm225_ren:={
 mixed:=by kernel_rfl
 f25:=Tryz.func353.trans (congrArg some (by kernel_rfl))
 f31:=Tryz.func269.trans (congrArg some (by kernel_rfl))
 f32:=Tryz.func371.trans (congrArg some (by kernel_rfl))
 f37:=Tryz.func303.trans (congrArg some (by kernel_rfl))
 t0:=Tryz.underlying0
 a0:=Tryz.isAgg0
 z0:=Tryz.sizeOf0
 v0:=Tryz.zeroValue0
 t3:=Tryz.underlying3
 a3:=Tryz.isAgg3
 z3:=Tryz.sizeOf3
 v3:=Tryz.zeroValue3
 t4:=Tryz.underlying4
 a4:=Tryz.isAgg4
 z4:=Tryz.sizeOf4
 v4:=Tryz.zeroValue4
 t22:=Tryz.underlying26
 a22:=Tryz.isAgg26
 z22:=Tryz.sizeOf26
 v22:=Tryz.zeroValue26
 t40:=Tryz.underlying228
 a40:=Tryz.isAgg228
 z40:=Tryz.sizeOf228
 v40:=Tryz.zeroValue228 }
open Go.RowKit Go.Lib in
theorem Tryz.slices_BinarySearch_int(b off n c:Nat)(zs:List Int)(x:Int)(w:World)(d:n<=zs.length)(a:n<4611686018427387904)(hc:∀j,j<zs.length->w.cell? ⟨b,off+j,none⟩=some (.int .i64 (zs.getD j 0)))(hs:(zs.take n).Pairwise (·<=·)):
  Calls prog 353 #[.slice (some ⟨b,off,none⟩) n c,.int .i64 x] w λe w'=>e=.returned (.tuple #[.int .i64 ((zs.take n).countP (·<x):Nat),.bool ((zs.take n).contains x)])/\∃q,w'=w.drewN q:=Any.slices_BinarySearch_int Tryz.laysNm225 b off n c zs x w d a hc hs
open Go.RowKit Go.Sort in
theorem Tryz.slices_Sort_int_none(p:Option Addr)(cap:Nat)(w:World):
  Calls prog 196 #[.slice p 0 cap] w λe w'=>e=.returned (.tuple #[])/\w'=w:=Any.slices_Sort_int_none Tryz.lays189 p cap w
open Go.RowKit Go.Lib in
theorem Tryz.slices_BinarySearch_int_empty(a:Option Addr)(c:Nat)(x:Int)(w:World):
  Calls prog 353 #[.slice a 0 c,.int .i64 x] w λe w'=>e=.returned (.tuple #[.int .i64 0,.bool false])/\w'=w:=Any.slices_BinarySearch_int_empty Tryz.laysNm225 a c x w
def Tryz.laysSlF6_f373_ren:Go.Shelf.Ren:=⟨fun | 6=>373 | 15=>241 | 14=>379 | 28=>272 | 29=>273 | 20=>381 | 21=>382 | 22=>383 | 23=>384 | 24=>385 | 25=>386 | 26=>387 | 27=>388 | 46=>389 | 47=>299 | 48=>300 | 49=>390 | 50=>391 | 57=>392 | n=>n,fun | 22=>26 | 24=>3 | 25=>58 | 3=>3 | 39=>228 | 0=>0 | 53=>293 | 55=>98 | 4=>4 | 46=>311 | 45=>310 | 50=>124 | 5=>5 | 9=>9 | 66=>345 | 70=>167 | 76=>381 | 77=>219 | n=>n,fun | n=>n⟩
theorem Tryz.laysSlF6_f373:Go.Proofs.SlLaysF.n6 prog Tryz.laysSlF6_f373_ren:={
 mixed:=by kernel_rfl
 f6:=⟨Tryz.f373.name,by decide,Tryz.func373.trans (congrArg some (by kernel_rfl))⟩
 f14:=⟨Tryz.f379.name,by decide,Tryz.func379.trans (congrArg some (by kernel_rfl))⟩
 f15:=Tryz.func241.trans (congrArg some (by kernel_rfl))
 f20:=⟨Tryz.f381.name,by decide,Tryz.func381.trans (congrArg some (by kernel_rfl))⟩
 f21:=⟨Tryz.f382.name,by decide,Tryz.func382.trans (congrArg some (by kernel_rfl))⟩
 f22:=⟨Tryz.f383.name,by decide,Tryz.func383.trans (congrArg some (by kernel_rfl))⟩
 f23:=⟨Tryz.f384.name,by decide,Tryz.func384.trans (congrArg some (by kernel_rfl))⟩
 f24:=⟨Tryz.f385.name,by decide,Tryz.func385.trans (congrArg some (by kernel_rfl))⟩
 f25:=⟨Tryz.f386.name,by decide,Tryz.func386.trans (congrArg some (by kernel_rfl))⟩
 f26:=⟨Tryz.f387.name,by decide,Tryz.func387.trans (congrArg some (by kernel_rfl))⟩
 f27:=⟨Tryz.f388.name,by decide,Tryz.func388.trans (congrArg some (by kernel_rfl))⟩
 f28:=Tryz.func272.trans (congrArg some (by kernel_rfl))
 f29:=Tryz.func273.trans (congrArg some (by kernel_rfl))
 f46:=⟨Tryz.f389.name,by decide,Tryz.func389.trans (congrArg some (by kernel_rfl))⟩
 f47:=Tryz.func299.trans (congrArg some (by kernel_rfl))
 f48:=Tryz.func300.trans (congrArg some (by kernel_rfl))
 f49:=⟨Tryz.f390.name,by decide,Tryz.func390.trans (congrArg some (by kernel_rfl))⟩
 f50:=⟨Tryz.f391.name,by decide,Tryz.func391.trans (congrArg some (by kernel_rfl))⟩
 f57:=⟨Tryz.f392.name,by decide,Tryz.func392.trans (congrArg some (by kernel_rfl))⟩
 t0:=Tryz.underlying0
 a0:=Tryz.isAgg0
 z0:=Tryz.sizeOf0
 v0:=Tryz.zeroValue0
 t3:=Tryz.underlying3
 a3:=Tryz.isAgg3
 z3:=Tryz.sizeOf3
 v3:=Tryz.zeroValue3
 t4:=Tryz.underlying4
 a4:=Tryz.isAgg4
 z4:=Tryz.sizeOf4
 v4:=Tryz.zeroValue4
 t5:=Tryz.underlying5
 a5:=Tryz.isAgg5
 z5:=Tryz.sizeOf5
 v5:=Tryz.zeroValue5
 t9:=Tryz.underlying9
 a9:=Tryz.isAgg9
 z9:=Tryz.sizeOf9
 v9:=Tryz.zeroValue9
 t22:=Tryz.underlying26
 a22:=Tryz.isAgg26
 z22:=Tryz.sizeOf26
 v22:=Tryz.zeroValue26
 a24:=Tryz.isAgg3
 z24:=Tryz.sizeOf3
 t25:=Tryz.underlying58
 a25:=Tryz.isAgg58
 z25:=Tryz.sizeOf58
 v25:=Tryz.zeroValue58
 t39:=Tryz.underlying228
 a39:=Tryz.isAgg228
 z39:=Tryz.sizeOf228
 v39:=Tryz.zeroValue228
 t45:=Tryz.underlying310
 a45:=Tryz.isAgg310
 z45:=Tryz.sizeOf310
 v45:=Tryz.zeroValue310
 t46:=Tryz.underlying311
 a46:=Tryz.isAgg311
 z46:=Tryz.sizeOf311
 v46:=Tryz.zeroValue311
 t50:=Tryz.underlying124
 a50:=Tryz.isAgg124
 z50:=Tryz.sizeOf124
 v50:=Tryz.zeroValue124
 t53:=Tryz.underlying293
 a53:=Tryz.isAgg293
 z53:=Tryz.sizeOf293
 v53:=Tryz.zeroValue293
 t55:=Tryz.underlying98
 a55:=Tryz.isAgg98
 z55:=Tryz.sizeOf98
 v55:=Tryz.zeroValue98
 t66:=Tryz.underlying345
 a66:=Tryz.isAgg345
 z66:=Tryz.sizeOf345
 v66:=Tryz.zeroValue345
 t70:=Tryz.underlying167
 a70:=Tryz.isAgg167
 z70:=Tryz.sizeOf167
 v70:=Tryz.zeroValue167
 t76:=Tryz.underlying381
 a76:=Tryz.isAgg381
 z76:=Tryz.sizeOf381
 v76:=Tryz.zeroValue381
 t77:=Tryz.underlying219
 a77:=Tryz.isAgg219
 z77:=Tryz.sizeOf219
 v77:=Tryz.zeroValue219 }
end Go.Proofs
namespace Go.Proofs.YtcocagkbfpgmiaaGreatDoor.Pv
open Go Go.Proofs Go.Shelf Go.RowKit Go.Lib
theorem VI{P:Program}(w:World)(r s ty b:TypeId)(g o c e:Nat)(a:Addr)(d f k n:Nat)(cur:Array Value)(t:TypeId)(cs:List Value)
  (u:P.underlying r=some (.slice b)) (hs:(P.info? b).map (·.size)=some k) (hn:n=Nat.min d c)
  (x:w.heap[g]?=some (.cells cur t (0,0))) (hl:cs.length=n*k)
  (h:∀j v,cs[j]?=some v->w.cell? (a.add j)=some v) (l:o+cs.length<=cur.size) (h1:∀v∈cs,v.oneCell'=true) :
  (Builtin.copy_ #[r,s] ty #[.slice (some ⟨g,o,none⟩) c e,.slice (some a) d f]).run P w =
   .ok (goInt n) (w.setRow g (cur.toList.take o++cs++cur.toList.drop (o+cs.length)).toArray):=by
 have m:=run_loadCells_list (P:=P) w a cs h;have p:=run_storeCells_at P g o t cs 0 cur w x (by simpa using l) h1;rw[hl]at m;cases q:P.info? b with
 | none=>simp[q]at hs
 | some i =>
  have hi:i.size=k:=by simpa[q] using hs
  simp[Builtin.copy_,run_underlying u,Builtin.lenOf,Builtin.firstCells,sizeOf,typeInfo,q,hi,<-hn,m,p]
theorem ZkA{P:Program}(w:World)(d s e:TypeId)(t:P.underlying d=some (.slice e))(size:Nat)(n:∀w,(Go.sizeOf e).run P w=.ok size w)
  (a b:Addr) (o u p v:Nat) (c:a.block≠b.block) (tA x:TypeId) (q r:Nat)
  (f:w.shape? a.block=some (tA,q+1)) (g:w.shape? b.block=some (x,r+1))
  (h:w.frozen? b=false) (i:w.frozen? { block:=b.block,off:=r+1 }=false) :
  (Extern.SlicesOverlaps.overlaps #[d,d] #[s] #[.slice (some a) o u,.slice (some b) p v]).run P w=.ok (.bool false) w:=by
 have j:(a.block != b.block)=true:=by simpa using c
 have k:(a.block == b.block)=false:=by simpa using c
 conv=>lhs;arg 2;whnf
 rw[Sem.run];simp only[Sem.bind,List.getElem_toArray,List.getElem_cons_zero,t];change Sem.run P (Bind.bind (pure (TypeDesc.slice e):Sem TypeDesc) _) w=_
 by_cases h0:o=0\/p=0\/size=0
 ·simp[n,h0]
 ·cases l:w.frozen? a<;>cases m:w.frozen? { block:=a.block,off:=q+1 } <;>
   simp[n,h0,j,k,frozen,noView,viewAt,mayBeOne,stringish,shape,Sem.run,f,g,l,m,h,i]
theorem ZkB(b n c i vb vo vc:Nat)(cs vs:List Value)(w:World)(i0:TypeInfo)(z:Value)(m:prog.info? 100=some i0)(a2:i0.zero=some z)(o:i0.size=2)(p:i0.bytes=16)(a3:z.cells.size=2)
  (hi:i<n) (d8:n<=c) (q:c<n+1) (hn:n<=1048576) (a4:cs.length=n*2) (a5:vs.length=2)
  (f:∀j v,cs[j]?=some v->w.cell? ⟨b,j,none⟩=some v) (r:∀j v,vs[j]?=some v->w.cell? ⟨vb,vo+j,none⟩=some v) (a6:∀v∈cs,v.oneCell'=true) (a7:∀v∈vs,v.oneCell'=true)
  (G:Nat) (hG:G=grownCap w (n+1) c 100) (ROW:Array Value) (a:ROW=(cs.take (i*2)).toArray++Builtin.zeroCells z.cells (n+1-i)++Builtin.zeroCells z.cells (G-(n+1))) (R1 R2:Array Value)
  (s:R1=(ROW.toList.take (i*2)++vs++ROW.toList.drop (i*2+2)).toArray) (a8:R2=(R1.toList.take ((i+1)*2)++cs.drop (i*2)++R1.toList.drop ((i+1)*2+(cs.drop (i*2)).length)).toArray) :
  Calls prog 338 #[.slice (some ⟨b,0,none⟩) n c,.int .i64 i,.slice (some ⟨vb,vo,none⟩) 1 vc] w λe w' =>
   e=.returned (.slice (some ⟨w.heap.size,0,none⟩) (n+1) G)/\w'=((w.drew.alloc (.cells ROW 100)).setRow w.heap.size R1).drew.setRow w.heap.size R2:=by
 have d9:¬((i:Int)=(n:Int)):=DO
 have e0:(c:Int)<(n:Int)+1:=DO
 have t:(prog.info? 100).map (·.size)=some 2:=by rw[m];simp[o]
 have a9:(n:Int)+1-(i:Int)=((n+1-i:Nat):Int):=DO
 have u:i+(n+1-i)=n+1:=DO
 have hold:(Builtin.firstCells i0.size i (.slice (some ⟨b,0,none⟩) i c)).run prog w.drew=.ok (cs.take (i*2)).toArray w.drew:=by
  rw[o];exact run_firstCells_some w.drew 2 i ⟨b,0,none⟩ i c (cs.take (i*2)) (by rw[Ax];omega) (λj v k=>by
   rw[BI]at k;split at k
   ·have:=f j v k;rw[Addr.add_lit,AS];exact this
   ·cases k)
 have b7:∀ty,(Builtin.append_ #[40,3] ty #[.slice (some ⟨b,0,none⟩) i c,.int .i64 ((n:Int)+1-(i:Int))]).run prog w =
   .ok (.slice (some ⟨w.heap.size,0,none⟩) (n+1) G) (w.drew.alloc (.cells ROW 100)):=λty=>by
  have h:=Lib.run_append_grow_zeros w 40 3 ty 100 i0 _ .i64 .i64 underlying40 underlying3 m a2 (some ⟨b,0,none⟩) i c (cs.take (i*2)) hold (n+1-i) DO DO DO DO (by rw[p];omega) (by rw[p,u];exact growslice_fits q (by omega));rw[u]at h;rw[a9,a,hG];exact h
 have d4:ROW.size=G*2:=by
  rw[a];have:=grownCap_ge w (n+1) c 100;simp[Builtin.zeroCells,a3];omega
 have e1:n+1<=G:=by rw[hG];exact grownCap_ge w _ _ _
 have d6:G<=9223372036854775807:=by
  have:=grownCap_le_maxLen w (n+1) c 100 (by unfold maxLen;omega);rw[<-hG]at this;unfold maxLen at this;omega
 have b8:b<w.heap.size:=block_lt_of_cell (f 0 _ (Ac DO));have c6:vb<w.heap.size:=block_lt_of_cell (r 0 _ (Ac DO));obtain⟨W1,d⟩:∃W1,W1=w.drew.alloc (.cells ROW 100):=⟨_,rfl⟩;have c7:W1.heap[w.heap.size]?=some (.cells ROW 100 (0,0)):=by rw[d];show (w.heap.push _)[w.heap.size]?=_;exact Array.getElem?_push_size
 have y:∀b',b'<w.heap.size->∀j v,w.cell? ⟨b',j,none⟩=some v->W1.cell? ⟨b',j,none⟩=some v:=λb' d5 j v h=>by rw[d,World.cell?_alloc_past (w:=w.drew) _ b' j d5];exact h
 have c8:∀W:World,W.heap=W1.heap->∀x,W.cell? x=W1.cell? x:=λW g x=>by unfold World.cell?;rw[g]
 have hA:∀(W:World),W.heap=W1.heap->∀ty dc,(Builtin.copy_ #[40,40] ty #[.slice (some ⟨w.heap.size,i*2,none⟩) (n+1-i) dc,.slice (some ⟨vb,vo,none⟩) 1 vc]).run prog W=.ok (goInt 1) (W.setRow w.heap.size R1):=λW g ty dc=>by
  have:=VI (P:=prog) W 40 40 ty 100 w.heap.size (i*2) (n+1-i) dc ⟨vb,vo,none⟩ 1 vc 2 1 ROW 100 vs underlying40 t (by simp only[DJ];split<;>omega) (by rw[g];exact c7) DO
   (λj v k=>by rw[Addr.add_lit,c8 W g];exact y vb c6 _ v (r j v k)) DO a7
  rw[a5,<-s]at this;exact this
 obtain⟨W2,a0⟩:∃W2,W2=W1.setRow w.heap.size R1:=⟨_,rfl⟩;have d0:W2.heap[w.heap.size]?=some (.cells R1 100 (0,0)):=by rw[a0];exact setRow_heap _ _ _ _ _ _ c7
 have d1:R1.size=G*2:=by rw[s];simp;omega
 have l:∀j v,cs[j]?=some v->W2.cell? ⟨b,j,none⟩=some v:=λj v h=>by
  have h1:=y b b8 j v (f j v h);rw[a0];have h2:(W1.setRow w.heap.size R1).heap[b]?=W1.heap[b]?:=by unfold World.setRow;simp only[BB];rw[if_neg DO]
  unfold World.cell? at h1 ⊢;rw[h2];exact h1
 have a1:∀W:World,W.heap=W2.heap->∀x,W.cell? x=W2.cell? x:=λW g x=>by unfold World.cell?;rw[g]
 have d2:(cs.drop (i*2)).length=(n-i)*2:=by rw[Bo,a4];omega
 have hB:∀(W:World),W.heap=W2.heap->∀ty dc sc,(Builtin.copy_ #[40,40] ty #[.slice (some ⟨w.heap.size,(i+1)*2,none⟩) (n+1-(i+1)) dc,.slice (some ⟨b,i*2,none⟩) (n-i) sc]).run prog W=.ok (goInt (n-i:Nat)) (W.setRow w.heap.size R2):=λW g ty dc sc=>by
  have:=VI (P:=prog) W 40 40 ty 100 w.heap.size ((i+1)*2) (n+1-(i+1)) dc ⟨b,i*2,none⟩ (n-i) sc 2 (n-i) R1 100 (cs.drop (i*2)) underlying40 t (by simp only[DJ];split<;>omega) (by rw[g];exact d0) d2
   (λj v k=>by rw[Addr.add_lit,a1 W g];exact l _ v (by rwa[AP]at k)) DO (λv hv=>a6 v (Ck hv))
  rw[<-a8]at this;exact this
 have d3:W1.heap=(w.drew.alloc (.cells ROW 100)).heap:=by rw[d]
 clear a s a8 hold f r y l a2 a3 d3 a9 u hG a4 a5 t d4 d1 d2 a6 a7 o p m b8 c6;have e2:¬(c=i):=DO
 have e3:¬(G=i):=DO
 have d7:¬(G=i+1):=DO
 have e4:IntKind.i64.wrap ((i:Int)+1)=(i:Int)+1:=by rw[AA];omega
 have e5:(0:Int)<=(i:Int)+1:=DO
 have e6:i<=n:=DO
 have e7:((i:Int)+1).toNat=i+1:=DO
 have e8:(i:Int)<=(n:Int):=DO
 rw[<-d]at b7;have mixed:prog.follows .mixedOrders=true:=DR
 go_enter func338,ntmps338
 go_wp2_with (first
  | (at_builtin;refine Lib.wpList_append_run _ rfl _ _ _ _ rfl _ _ rfl rfl _ _ (b7 _) ?_)
  | (at_builtin;refine wpList_copy_runI _ rfl _ _ 40 40 rfl _ _ rfl rfl (hA _ rfl _ _) ?_))
 go_region_law_o (refine step_copy_runI rfl _ _ 40 40 rfl (.slice (some ⟨w.heap.size,(i+1)*2,none⟩) (n+1-(i+1)) (G-(i+1))) (.slice (some ⟨b,i*2,none⟩) (n-i) (c-i)) (by simp[Act.eval,Act.put]) (by simp[Act.eval,Act.put]) (hB _ (by rw[a0,d];rfl) 3 (G-(i+1)) (c-i)) ?_)
 go_wp2
 go_ret
 exact⟨rfl,rfl⟩
theorem ZkC(b n c i d g r:Nat)(cs vs:List Value)(w:World)(k:(prog.info? 100).map (·.size)=some 2)(cur:Array Value)(a:w.heap[b]?=some (.cells cur 100 (0,0)))(s:cur.size=c*2)
  (hi:i<n) (b8:n+1<=c) (c7:c<=9223372036854775807) (hn:n<=1048576) (t:cs.length=n*2) (u:vs.length=2) (y:d≠b)
  (z:∀j v,cs[j]?=some v->w.cell? ⟨b,j,none⟩=some v) (a0:∀j v,vs[j]?=some v->w.cell? ⟨d,g+j,none⟩=some v) (a1:∀v∈cs,v.oneCell'=true) (a2:∀v∈vs,v.oneCell'=true)
  (tA:TypeId) (kA:Nat) (a3:w.shape? d=some (tA,kA+1)) (R1 R2:Array Value)
  (l:R1=(cur.toList.take ((i+1)*2)++cs.drop (i*2)++cur.toList.drop ((i+1)*2+(cs.drop (i*2)).length)).toArray) (a4:R2=(R1.toList.take (i*2)++vs++R1.toList.drop (i*2+2)).toArray) :
  Calls prog 338 #[.slice (some ⟨b,0,none⟩) n c,.int .i64 i,.slice (some ⟨d,g,none⟩) 1 r] w λe w' =>
   e=.returned (.slice (some ⟨b,0,none⟩) (n+1) c)/\w'=(w.drew.setRow b R1).setRow b R2:=by
 have d1:¬((i:Int)=(n:Int)):=DO
 have d2:¬((c:Int)<(n:Int)+1):=DO
 have a5:(cs.drop (i*2)).length=(n-i)*2:=by rw[Bo,t];omega
 have a6:w.shape? b=some (100,(c*2-1)+1):=by unfold World.shape?;rw[a];simp[s];omega
 have m:∀j,w.frozen? ⟨b,j,none⟩=false:=λj=>by simp[World.frozen?,a]
 have c6:∀lb cb,(callFunc 355 #[.slice (some ⟨d,g,none⟩) 1 r,.slice (some ⟨b,(i+1)*2,none⟩) lb cb]).run prog w=.ok (.value (.bool false)) w:=λlb cb=>by
  rw[run_callFunc_extern func355 DR DR DR (e:=Extern.SlicesOverlaps.overlaps #[40,40] #[4]) DR,
   ZkA w 40 4 100 underlying40 2 sizeOf100 ⟨d,g,none⟩ ⟨b,(i+1)*2,none⟩ 1 r lb cb y tA 100 kA (c*2-1) a3 a6 (m _) (m _)]
  rfl
 have a7:∀W:World,W.heap=w.heap->∀x,W.cell? x=w.cell? x:=λW f x=>by unfold World.cell?;rw[f]
 have hA:∀(W:World),W.heap=w.heap->∀ty o sc,(Builtin.copy_ #[40,40] ty #[.slice (some ⟨b,(i+1)*2,none⟩) (n+1-(i+1)) o,.slice (some ⟨b,i*2,none⟩) (n+1-i) sc]).run prog W=.ok (goInt (n-i:Nat)) (W.setRow b R1):=λW f ty o sc=>by
  have:=VI (P:=prog) W 40 40 ty 100 b ((i+1)*2) (n+1-(i+1)) o ⟨b,i*2,none⟩ (n+1-i) sc 2 (n-i) cur 100 (cs.drop (i*2)) underlying40 k (by simp only[DJ];split<;>omega) (by rw[f];exact a) a5
   (λj v hj=>by rw[Addr.add_lit,a7 W f];exact z _ v (by rwa[AP]at hj)) DO (λv hv=>a1 v (Ck hv))
  rw[<-l]at this;exact this
 obtain⟨W1,p⟩:∃W1,W1=w.drew.setRow b R1:=⟨_,rfl⟩;have a8:W1.heap[b]?=some (.cells R1 100 (0,0)):=by rw[p];exact setRow_heap _ _ _ _ _ _ a
 have a9:R1.size=c*2:=by rw[l];simp;omega
 have b7:∀j v,vs[j]?=some v->W1.cell? ⟨d,g+j,none⟩=some v:=λj v h=>by
  have h1:=a0 j v h;rw[p];unfold World.cell? at h1 ⊢;rw[setRow_other _ _ _ _ y];exact h1
 have q:∀W:World,W.heap=W1.heap->∀x,W.cell? x=W1.cell? x:=λW f x=>by unfold World.cell?;rw[f]
 have hB:∀(W:World),W.heap=W1.heap->∀ty o,(Builtin.copy_ #[40,40] ty #[.slice (some ⟨b,i*2,none⟩) (n+1-i) o,.slice (some ⟨d,g,none⟩) 1 r]).run prog W=.ok (goInt 1) (W.setRow b R2):=λW f ty o=>by
  have:=VI (P:=prog) W 40 40 ty 100 b (i*2) (n+1-i) o ⟨d,g,none⟩ 1 r 2 1 R1 100 vs underlying40 k (by simp only[DJ];split<;>omega) (by rw[f];exact a8) DO
   (λj v hj=>by rw[Addr.add_lit,q W f];exact b7 j v hj) DO a2
  rw[u,<-a4]at this;exact this
 have d3:¬(c=i):=DO
 have c8:¬(c=i+1):=DO
 have d4:IntKind.i64.wrap ((i:Int)+1)=(i:Int)+1:=by rw[AA];omega
 have d5:(0:Int)<=(i:Int)+1:=DO
 have d6:i<=n:=DO
 have d0:i<=n+1:=DO
 have d7:((i:Int)+1).toNat=i+1:=DO
 have d8:(i:Int)<=(n:Int):=DO
 have d9:(i:Int)<=(n:Int)+1:=DO
 clear l a4 z a0 b7 k t u a5 a1 a2 a s a3 a6 m a9;have mixed:prog.follows .mixedOrders=true:=DR
 go_enter func338,ntmps338
 go_wp2_with (simp only[c6])
 go_region_law_o (refine step_copy_runI rfl _ _ 40 40 rfl (.slice (some ⟨b,(i+1)*2,none⟩) (n+1-(i+1)) (c-(i+1))) (.slice (some ⟨b,i*2,none⟩) (n+1-i) (c-i)) (by simp[Act.eval,Act.put]) (by simp[Act.eval,Act.put]) (hA _ DU 3 (c-(i+1)) (c-i)) ?_)
 go_wp2_with (at_builtin;refine wpList_copy_runI _ rfl _ _ 40 40 rfl _ _ rfl rfl (hB _ (by rw[p];rfl) _ _) ?_)
 go_ret
 exact⟨rfl,rfl⟩
end Go.Proofs.YtcocagkbfpgmiaaGreatDoor.Pv
namespace Go.Proofs
open Go.Shelf
def Tryz.growStop_ren:Go.Shelf.Ren:=⟨fun | 4=>370 | n=>n,fun | 22=>40 | 25=>100 | 3=>3 | 4=>4 | 9=>9 | 20=>20 | 0=>0 | 2=>3 | n=>n,fun | n=>n⟩
theorem Tryz.growStop:Go.Proofs.Lays8.n4 prog Tryz.growStop_ren:={
 mixed:=by kernel_rfl
 f4:=⟨Tryz.f370.name,by decide,Tryz.func370.trans (congrArg some (by kernel_rfl))⟩
 t0:=Tryz.underlying0
 a0:=Tryz.isAgg0
 z0:=Tryz.sizeOf0
 v0:=Tryz.zeroValue0
 t3:=Tryz.underlying3
 a3:=Tryz.isAgg3
 z3:=Tryz.sizeOf3
 v3:=Tryz.zeroValue3
 t4:=Tryz.underlying4
 a4:=Tryz.isAgg4
 z4:=Tryz.sizeOf4
 v4:=Tryz.zeroValue4
 t9:=Tryz.underlying9
 a9:=Tryz.isAgg9
 z9:=Tryz.sizeOf9
 v9:=Tryz.zeroValue9
 t20:=Tryz.underlying20
 a20:=Tryz.isAgg20
 z20:=Tryz.sizeOf20
 v20:=Tryz.zeroValue20
 t22:=Tryz.underlying40
 a22:=Tryz.isAgg40
 z22:=Tryz.sizeOf40
 v22:=Tryz.zeroValue40 }
open Go.RowKit Go.Lib in
theorem Tryz.slices_Grow_stop(i0:TypeInfo)(z:Value)(c:prog.info? (100)=some i0)(d:i0.zero=some z)(f:0<i0.size)(n:Nat)(w:World)(g:0<n)(b:(0+n)*i0.bytes<=140737488355328)(i:0+n<=4611686018427387904):
  Calls prog 370 #[.slice none 0 0,.int .i64 n] w λe w' =>
   e=.returned (.slice (some ⟨w.heap.size,0,none⟩) 0 (grownCap w (0+n) 0 (100))) /\
   w'=w.drew.alloc (.cells ((#[]:Array Value)++Builtin.zeroCells z.cells (0+n-0)++Builtin.zeroCells z.cells (grownCap w (0+n) 0 (100)-(0+n))) (100)):=Any8.slices_Grow_grow Tryz.growStop i0 z c d f none 0 0 n [] w (by omega) (by omega) b i (by simp) (λ_=>rfl) (λa h=>by cases h)
end Go.Proofs
namespace Go.Proofs.YtcocagkbfpgmiaaGreatDoor.Hp
structure Str {α:Type} (lt:α->α->Bool):Prop where
 irr:∀a,lt a a=false
 tr:∀a b c,lt a b=true->lt b c=true->lt a c=true
 tot:∀a b,lt a b=false->lt b a=false->a=b
section
variable {α:Type}
def il[DecidableEq α](lt:α->α->Bool)(a b:Int × α):Bool:=if a.2=b.2 then decide (a.1<b.1) else lt a.2 b.2
theorem YX[DecidableEq α]{lt:α->α->Bool}(h:Str lt):Str (il lt):=by
 refine⟨λa=>by simp[il],λa b c h1 h2=>?_,λa b h1 h2=>?_⟩
 ·unfold il at *
  by_cases d:a.2=b.2
  ·grind
  ·rw[if_neg d]at h1
   by_cases e2:b.2=c.2
   ·simp_all
   ·rw[if_neg e2]at h2;have:=h.tr _ _ _ h1 h2
    by_cases f:a.2=c.2
    ·rw[f,h.irr]at this;cases this
    simp_all
 ·unfold il at *
  by_cases d:a.2=b.2
  ·grind
  ·rw[if_neg d]at h1;rw[if_neg (λe=>d e.symm)]at h2;exact absurd (h.tot _ _ h1 h2) d
abbrev zV(α:Type):=List (Int × α)
def zL[Inhabited α](l:zV α)(i:Nat):Int × α:=l.getD i default
def swp[Inhabited α](l:zV α)(i j:Nat):zV α:=(l.set i (zL l j)).set j (zL l i)
theorem Zq[Inhabited α](l:zV α)(i j:Nat):(swp l i j).length=l.length:=by simp[swp]
theorem ZkD[Inhabited α](m:zV α)(a b:Nat)(x:Int × α)(c:a<m.length):zL (m.set a x) b=if b=a then x else zL m b:=by grind[zL]
theorem Wy[Inhabited α](l:zV α)(i j k:Nat)(hi:i<l.length)(a:j<l.length):zL (swp l i j) k=if k=j then zL l i else if k=i then zL l j else zL l k:=by simp_all[swp,ZkD]
theorem VJ[Inhabited α](l:zV α)(i j:Nat)(hi:i<l.length)(a:j<l.length):(swp l i j).Perm l:=by
 have h:=Array.swap_perm (xs:=l.toArray) (i:=i) (j:=j) (by simpa using hi) (by simpa using a)
 grind[Array.perm_iff_toList_perm,swp,zL]
variable [DecidableEq α] [Inhabited α]
def yp(k:Nat):Nat:=(k-1) / 2
def ZL(lt:α->α->Bool)(l:zV α)(n:Nat):Prop:=∀k,0<k->k<n->il lt (zL l k) (zL l (yp k))=false
def vr(lt:α->α->Bool):Nat->zV α->Nat->zV α
 | 0,l,_=>l
 | f+1,l,j=>if yp j=j\/il lt (zL l j) (zL l (yp j))=false then l else vr lt f (swp l (yp j) j) (yp j)
def xh(lt:α->α->Bool)(l:zV α)(i n:Nat):Nat:=if 2*i+2<n/\il lt (zL l (2*i+2)) (zL l (2*i+1))=true then 2*i+2 else 2*i+1
def qB(lt:α->α->Bool):Nat->zV α->Nat->Nat->zV α × Nat
 | 0,l,i,_=>(l,i)
 | f+1,l,i,n =>
  if n<=2*i+1 then (l,i)
  else if il lt (zL l (xh lt l i n)) (zL l i)=false then (l,i)
  else qB lt f (swp l i (xh lt l i n)) (xh lt l i n) n
theorem uT{k:Nat}(h:0<k):yp k<k:=by unfold yp;omega
variable {lt:α->α->Bool}
theorem Wz{β:Type}[DecidableEq β]{lt:β->β->Bool}(h:Str lt){a b c:Int × β}(h1:il lt a b=false)(h2:il lt b c=false):il lt a c=false:=by
 have s:=YX h;cases d:il lt a c with
 | false=>rfl
 | true =>
  cases hb:il lt c b with
  | true=>have:=s.tr _ _ _ d hb;simp_all
  | false=>have:=s.tot _ _ hb h2;simp_all
theorem VK{β:Type}[DecidableEq β]{lt:β->β->Bool}(h:Str lt){a b:Int × β}(h1:il lt a b=true):il lt b a=false:=by
 have s:=YX h;cases c:il lt b a with
 | false=>rfl
 | true=>have:=s.tr _ _ _ h1 c;rw[s.irr]at this;cases this
structure UpInv (lt:α->α->Bool) (l:zV α) (n j:Nat):Prop where
 rest:∀k,0<k->k<n->k≠j->il lt (zL l k) (zL l (yp k))=false
 kids:∀k,0<k->k<n->yp k=j->0<j->il lt (zL l k) (zL l (yp j))=false
theorem ZeK(h:Str lt):∀(f:Nat) (l:zV α) (n j:Nat),n<=l.length->j<n->j<f->UpInv lt l n j->ZL lt (vr lt f l j) n/\(vr lt f l j).Perm l/\(vr lt f l j).length=l.length/\∀k,n<=k->zL (vr lt f l j) k=zL l k:=by
 intro f
 induction f with
 | zero=>omega
 | succ f v =>
  intro l n j hn hj hf b;unfold vr;split
  ·rename_i hc;refine⟨λk c a=>?_,.refl _,rfl,λ_ _=>rfl⟩
   by_cases g:k=j
   ·subst g;rcases hc with hc | hc
    ·have:=uT c;omega
    omega
   ·exact b.rest k c a g
  ·rename_i hc;have r:yp j≠j:=λe=>hc (.inl e)
   have w:il lt (zL l j) (zL l (yp j))=true:=by
    cases hq:il lt (zL l j) (zL l (yp j)) with
    | true=>rfl
    | false=>simp_all
   have i:0<j:=by
    rcases B1 j with e | e
    ·subst e;exact absurd rfl r
    ·exact e
   have hp:=uT i;have m:yp j<l.length:=DO
   have o:j<l.length:=DO
   have d:=λk=>Wy l (yp j) j k m o
   have:=v (swp l (yp j) j) n (yp j) (by simp_all[Zq]) DO DO ⟨λk c a p=>?_,λk c a p q=>?_⟩
   ·obtain⟨x,y,z,q4⟩:=this;refine⟨x,y.trans (VJ l _ _ m o),z.trans (Zq _ _ _),λk c=>?_⟩;rw[q4 k c,d k,if_neg DO,if_neg DO]
   ·rw[d k,d (yp k)]
    by_cases k1:k=j
    ·simp_all[VK]
    ·rw[if_neg k1,if_neg p]
     by_cases s:yp k=j
     ·rw[if_pos s];exact b.kids k c a s i
     ·rw[if_neg s]
      by_cases t:yp k=yp j
      ·rw[if_pos t];have:=b.rest k c a k1
       grind[Wz,VK]
      ·rw[if_neg t];exact b.rest k c a k1
   ·have a0:=uT q;rw[d k,d (yp (yp j)),if_neg (show yp (yp j)≠j by omega),if_neg (show yp (yp j)≠yp j by omega)];have u:=b.rest (yp j) q DO DO
    by_cases k1:k=j
    ·simp_all
    ·rw[if_neg k1,if_neg (by have:=uT c;omega)];have:=b.rest k c a k1
     grind[Wz]
structure DownInv (lt:α->α->Bool) (l:zV α) (n i:Nat):Prop where
 rest:∀k,0<k->k<n->yp k≠i->k≠i->il lt (zL l k) (zL l (yp k))=false
 kids:∀k,0<k->k<n->yp k=i->0<i->il lt (zL l k) (zL l (yp i))=false
theorem ZeL(h:Str lt)(l:zV α)(i n:Nat)(hi:2*i+1<n):yp (xh lt l i n)=i/\xh lt l i n<n/\0<xh lt l i n/\i<xh lt l i n/\∀k,0<k->k<n->yp k=i->il lt (zL l k) (zL l (xh lt l i n))=false:=by
 have s:=YX h;unfold xh;split
 ·rename_i hc;refine⟨by unfold yp;omega,hc.1,by omega,by omega,λk c a b=>?_⟩;have:k=2*i+1\/k=2*i+2:=by unfold yp at b;omega
  rcases this with rfl | rfl
  ·exact VK h hc.2
  ·exact s.irr _
 grind[yp,il]
theorem ZeM(h:Str lt):∀(f:Nat) (l:zV α) (n i:Nat),n<=l.length->i<n->n<=f+i->DownInv lt l n i ->
  (qB lt f l i n).1.Perm l/\(qB lt f l i n).1.length=l.length/\(∀k,n<=k->zL (qB lt f l i n).1 k=zL l k)/\i<=(qB lt f l i n).2/\(qB lt f l i n).2<n /\
  (i<(qB lt f l i n).2->ZL lt (qB lt f l i n).1 n) /\
  ((qB lt f l i n).2=i->(qB lt f l i n).1=l/\∀k,0<k->k<n->k≠i->il lt (zL l k) (zL l (yp k))=false):=by
 intro f
 induction f with
 | zero=>omega
 | succ f y =>
  intro l n i hn hi hf c;have d:(∀k,0<k->k<n->yp k=i->il lt (zL l k) (zL l i)=false)->∀k,0<k->k<n->k≠i->il lt (zL l k) (zL l (yp k))=false:=by
   intro x k k0 b z
   by_cases e:yp k=i
   ·simp_all
   ·exact c.rest k k0 b e z
  unfold qB;split
  ·rename_i s;refine⟨.refl _,rfl,λ_ _=>rfl,Ag _,hi,λg=>by omega,λ_=>⟨rfl,d λk k0 b e=>?_⟩⟩;unfold yp at e;omega
  ·rename_i s;obtain⟨c1,c2,c3,c4,c5⟩:=ZeL h l i n DO;split
   ·rename_i hc;exact⟨.refl _,rfl,λ_ _=>rfl,Ag _,hi,λg=>by omega,λ_=>⟨rfl,d λk k0 b e=>Wz h (c5 k k0 b e) hc⟩⟩
   ·rename_i hc;have t:il lt (zL l (xh lt l i n)) (zL l i)=true:=by
     cases hq:il lt (zL l (xh lt l i n)) (zL l i) with
     | true=>rfl
     | false=>simp_all
    generalize hj:xh lt l i n=j at *;have m:i<l.length:=DO
    have o:j<l.length:=DO
    have a:=λk=>Wy l i j k m o
    have p:DownInv lt (swp l i j) n j:=by
     refine⟨λk k0 b u q=>?_,λk k0 b u j0=>?_⟩
     ·rw[a k,a (yp k),if_neg q,if_neg u]
      by_cases k1:k=i
      ·subst k1;rw[if_pos rfl];have v:=uT k0;rw[if_neg DO];exact c.kids j c3 c2 c1 k0
      ·rw[if_neg k1]
       by_cases r:yp k=i
       ·rw[if_pos r];exact c5 k k0 b r
       ·rw[if_neg r];exact c.rest k k0 b r k1
     ·rw[a k,a (yp j),c1,if_neg (show i≠j by omega),if_pos rfl];have v:=uT k0;rw[if_neg DO,if_neg DO];have:=c.rest k k0 b DO DO;rw[u]at this;omega
    obtain⟨q1,q2,q3,q4,q5,q6,q7⟩:=y (swp l i j) n j (by simp_all[Zq]) c2 DO p;refine⟨q1.trans (VJ l _ _ m o),q2.trans (Zq _ _ _),λk x=>by rw[q3 k x,a k,if_neg DO,if_neg DO],by omega,q5,λg=>?_,λhe=>by omega⟩
    by_cases w:j<(qB lt f (swp l i j) j n).2
    ·exact q6 w
    ·obtain⟨r1,r2⟩:=q7 DO;rw[r1];intro k k0 b
     by_cases q:k=j
     ·subst q;rw[a k,a (yp k),c1,if_pos rfl,if_neg (show i≠k by omega),if_pos rfl];exact VK h t
     ·exact r2 k k0 b q
theorem ZkE:∀(f a:Nat) (l:zV α) (j:Nat),j<f->j<a->vr lt f l j=vr lt a l j:=by
 intro f
 induction f with
 | zero=>omega
 | succ f b =>
  intro a l j h1 h2;cases a<;>grind[vr,yp]
theorem ZkF(l:zV α)(i n:Nat):i<xh lt l i n:=by grind[xh]
theorem ZkG:∀(f a:Nat) (l:zV α) (i n:Nat),n<=f+i->n<=a+i->qB lt f l i n=qB lt a l i n:=by
 intro f
 induction f with
 | zero =>
  intro a l i n h1 h2;cases a<;>grind[qB]
 | succ f b =>
  intro a l i n h1 h2;cases a<;>grind[qB,ZkF]
end
end Go.Proofs.YtcocagkbfpgmiaaGreatDoor.Hp
namespace Go.Proofs.YtcocagkbfpgmiaaGreatDoor.Pv
open Go
inductive PV where
 | junk
 | sc (v:Value)
 | agg (cs:List PV)
 | tup (vs:List PV)
 | lst (n:Nat) (cs:List PV)
 | ip (cs:List PV)
 | ptr (o ver off:Nat)
 | sl (o ver sz off n:Nat)
 | fn (f:Fn) (first cap:List PV)
 | ifc (t:TypeId) (v:PV)
 | mp (o ver:Nat)
 | nl (low sz n:Nat) (cs:List PV)
inductive Ob where
 | dead
 | cells (ver:Nat) (e:TypeId) (cs:List PV)
 | map (ver:Nat) (es:List (Value × PV))
abbrev Store:=Nat->Ob
def Ob.ver:Ob->Option Nat
 | .dead=>none
 | .cells v _ _=>some v
 | .map v _=>some v
def Store.set(S:Store)(o:Nat)(x:Ob):Store:=λi=>if i=o then x else S i
theorem q11(S:Store)(o:Nat)(x:Ob):S.set o x o=x:=by simp[Store.set]
theorem q10(S:Store)(o i:Nat)(x:Ob)(h:i≠o):S.set o x i=S i:=by simp_all[Store.set]
theorem Store.set_set(S:Store)(o:Nat)(x y:Ob):(S.set o x).set o y=S.set o y:=by grind[Store.set]
theorem Store.set_comm(S:Store)(o i:Nat)(x y:Ob)(h:i≠o):(S.set o x).set i y=(S.set i y).set o x:=by grind[Store.set]
structure Ctx where
 loc:Nat->Option (Nat × Nat)
 next:Nat
 clock:Nat
def Ctx.M(C:Ctx)(S:Store)(b:Nat):Prop:=∃o k,S o≠.dead/\C.loc o=some (b,k)
def xk:Nat:=9223372036854775807
inductive Rel (C:Ctx) (S:Store) (w:World):PV->Value->Prop where
 | junk (v:Value):Rel C S w .junk v
 | sc (v:Value):Rel C S w (.sc v) v
 | agg {cs:List PV} {vs:Array Value} (hl:cs.length=vs.size) (h1:∀(i:Nat) (v:Value),vs[i]?=some v->v.oneCell'=true) (h:∀(i:Nat) (c:PV) (v:Value),cs[i]?=some c->vs[i]?=some v->Rel C S w c v):Rel C S w (.agg cs) (.agg vs)
 | tup {cs:List PV} {vs:Array Value} (hl:cs.length=vs.size) (h:∀(i:Nat) (c:PV) (v:Value),cs[i]?=some c->vs[i]?=some v->Rel C S w c v):Rel C S w (.tup cs) (.tuple vs)
 | lst0 {cap:Nat} {a:Option Addr}:Rel C S w (.lst 0 []) (.slice a 0 cap)
 | lst1 {n cap b o:Nat} {cs:List PV} {c:Array Value} {e:TypeId} {fz:Nat × Nat} (hn:n<=cap) (hm:n<=xk) (hb:w.heap[b]?=some (.cells c e fz)) (hM:¬C.M S b)
   (hs:cs≠[]->o+cs.length<=c.size) (h1:∀(i:Nat) (v:Value),i<cs.length->c[o+i]?=some v->v.oneCell'=true) (h:∀(i:Nat) (p:PV) (v:Value),cs[i]?=some p->c[o+i]?=some v->Rel C S w p v):Rel C S w (.lst n cs) (.slice (some ⟨b,o,none⟩) n cap)
 | ip {b o:Nat} {cs:List PV} {c:Array Value} {e:TypeId} {fz:Nat × Nat} (hb:w.heap[b]?=some (.cells c e fz)) (hM:¬C.M S b)
   (hs:cs≠[]->o+cs.length<=c.size) (h1:∀(i:Nat) (v:Value),i<cs.length->c[o+i]?=some v->v.oneCell'=true) (h:∀(i:Nat) (p:PV) (v:Value),cs[i]?=some p->c[o+i]?=some v->Rel C S w p v):Rel C S w (.ip cs) (.pointer (some ⟨b,o,none⟩))
 | ptr {o ver off:Nat} {v:Value} (h1:∃a,v=.pointer (some a)) (ho:o<C.next/\ver<C.clock) (h:∀v0,(S o).ver=some v0->ver<=v0/\(ver=v0->∃b k,C.loc o=some (b,k)/\v=.pointer (some ⟨b,off,none⟩))):Rel C S w (.ptr o ver off) v
 | sl {o ver sz off n:Nat} {v:Value} (h1:∃a cap,v=.slice a n cap/\n<=cap/\n<=xk/\cap<=maxLen/\(n≠0->∃b f,a=some ⟨b,f,none⟩)) (ho:o<C.next/\ver<C.clock) (h:∀v0,(S o).ver=some v0->ver<=v0/\(ver=v0 ->
   (C.loc o=none/\n=0/\off=0/\v=.slice none 0 0)\/∃b k a cap,C.loc o=some (b,k)/\v=.slice a n cap/\(off=0->a=some ⟨b,0,none⟩/\cap*sz=k)/\(n≠0->a=some ⟨b,off,none⟩))) :
   Rel C S w (.sl o ver sz off n) v
 | nl0 {low sz cap:Nat} {a:Option Addr}:Rel C S w (.nl low sz 0 []) (.slice a 0 cap)
 | nl {low sz n cap b:Nat} {cs:List PV} {c:Array Value} {e:TypeId} (hn:0<n/\n<=cap/\n<=xk/\cap<=maxLen) (hb:w.heap[b]?=some (.cells c e (0,0))) (hM:¬C.M S b) (hl:low<=b/\cs.length=n*sz/\cap*sz=c.size)
   (h1:∀(i:Nat) (v:Value),i<cs.length->c[i]?=some v->v.oneCell'=true) (h:∀(i:Nat) (p:PV) (v:Value),cs[i]?=some p->c[i]?=some v->Rel C S w p v):Rel C S w (.nl low sz n cs) (.slice (some ⟨b,0,none⟩) n cap)
 | fn {f:Fn} {fs cs:List PV} {fv cv:Array Value} (hf:fs.length=fv.size) (hc:cs.length=cv.size) (h:∀(i:Nat) (c:PV) (v:Value),fs[i]?=some c->fv[i]?=some v->Rel C S w c v)
   (h':∀(i:Nat) (c:PV) (v:Value),cs[i]?=some c->cv[i]?=some v->Rel C S w c v):Rel C S w (.fn f fs cs) (.func f fv cv)
 | ifc {t:TypeId} {p:PV} {v:Value} (h:Rel C S w p v):Rel C S w (.ifc t p) (.iface t v)
 | mp {o ver:Nat} {v:Value} (h1:∃b,v=.map (some b)) (ho:o<C.next/\ver<C.clock) (h:∀v0,(S o).ver=some v0->ver<=v0/\(ver=v0->∃b k,C.loc o=some (b,k)/\v=.map (some b))):Rel C S w (.mp o ver) v
structure Sim (C:Ctx) (S:Store) (w:World):Prop where
 lt:∀o,S o≠.dead->o<C.next
 clk:∀o v,(S o).ver=some v->v<C.clock
 dist:∀o o' b k k',S o≠.dead->S o'≠.dead->C.loc o=some (b,k)->C.loc o'=some (b,k')->o=o'
 cells:∀o ver e cs,S o=.cells ver e cs->(C.loc o=none/\cs=[])\/∃(b k:Nat) (c:Array Value),C.loc o=some (b,k)/\w.heap[b]?=some (.cells c e (0,0))/\c.size=k/\cs.length<=k /\
  (∀(i:Nat) (v:Value),i<cs.length->c[i]?=some v->v.oneCell'=true)/\∀(i:Nat) (p:PV) (v:Value),cs[i]?=some p->c[i]?=some v->Rel C S w p v
 maps:∀o ver es,S o=.map ver es->∃(b k:Nat) (ms:Array MapEntry) (cl:Nat),C.loc o=some (b,k)/\w.heap[b]?=some (.map ms cl)/\es.length=ms.size /\
  (∀(i:Nat) (e:Value × PV) (m:MapEntry),es[i]?=some e->ms[i]?=some m->m.key=e.1/\Rel C S w e.2 m.val)
structure Step (C:Ctx) (S:Store) (w:World) (C':Ctx) (S':Store) (w':World):Prop where
 os:w'.os=w.os
 tape:w'.tape=w.tape/\w.drawn<=w'.drawn
 output:w'.output=w.output
 size:w.heap.size<=w'.heap.size
 next:C.next<=C'.next
 clock:C.clock<=C'.clock
 blocks:∀b,b<w.heap.size->¬C.M S b->w'.heap[b]?=w.heap[b]?/\¬C'.M S' b
 vers:∀o v1,(S' o).ver=some v1->(C.next<=o\/C.clock<=v1)\/∃v0,(S o).ver=some v0/\v0<=v1/\(v0=v1->C'.loc o=C.loc o)
theorem qN{w:World}{b:Nat}{o:Obj}(h:w.heap[b]?=some o):b<w.heap.size:=(Bb.1 h).1
theorem Step.refl(C:Ctx)(S:Store)(w:World):Step C S w C S w :=
 ⟨rfl,⟨rfl,Ag _⟩,rfl,Ag _,Ag _,Ag _,λ_ _ h=>⟨rfl,h⟩,λ_ v1 h=>.inr ⟨v1,h,Ag _,λ_=>rfl⟩⟩
theorem Step.trans{C C' C'':Ctx}{S S' S'':Store}{w w' w'':World}(h:Step C S w C' S' w')(k:Step C' S' w' C'' S'' w''):Step C S w C'' S'' w'' :=
 ⟨k.os.trans h.os,⟨k.tape.1.trans h.tape.1,AF h.tape.2 k.tape.2⟩,k.output.trans h.output,AF h.size k.size,AF h.next k.next,AF h.clock k.clock,
  λb hb hM=>by
   obtain⟨h1,h2⟩:=h.blocks b hb hM;obtain⟨k1,d⟩:=k.blocks b (Bj hb h.size) h2
   simp_all,
  λo v1 hv=>by
   have hn:=h.next;have e:=h.clock;rcases k.vers o v1 hv with q | ⟨v0,a,b,c⟩
   ·omega
   ·rcases h.vers o v0 a with q | ⟨u,f,b',g⟩<;>grind⟩
theorem Rel.mono{C C':Ctx}{S S':Store}{w w':World}(st:Step C S w C' S' w'){p:PV}{v:Value}(h:Rel C S w p v):Rel C' S' w' p v:=by
 induction h with
 | junk v=>exact .junk v
 | sc v=>exact .sc v
 | agg hl h1 _ d=>exact .agg hl h1 d
 | tup hl _ d=>exact .tup hl d
 | lst0=>exact .lst0
 | lst1 hn hm hb hM hs h1 _ d =>
  obtain⟨k1,e⟩:=st.blocks _ (qN hb) hM;exact .lst1 hn hm (k1.trans hb) e hs h1 d
 | ip hb hM hs h1 _ d =>
  obtain⟨k1,e⟩:=st.blocks _ (qN hb) hM;exact .ip (k1.trans hb) e hs h1 d
 | nl0=>exact .nl0
 | nl hn hb hM hl h1 _ d =>
  obtain⟨k1,e⟩:=st.blocks _ (qN hb) hM;exact .nl hn (k1.trans hb) e hl h1 d
 | ptr h1 ho h =>
  refine .ptr h1 ⟨Bj ho.1 st.next,Bj ho.2 st.clock⟩ λv1 hv=>?_
  rcases st.vers _ v1 hv with q | ⟨v0,a,b,c⟩<;>grind
 | sl h1 ho h =>
  refine .sl h1 ⟨Bj ho.1 st.next,Bj ho.2 st.clock⟩ λv1 hv=>?_
  rcases st.vers _ v1 hv with q | ⟨v0,a,b,c⟩<;>grind
 | fn hf hc _ _ d f=>exact .fn hf hc d f
 | ifc _ d=>exact .ifc d
 | mp h1 ho h =>
  refine .mp h1 ⟨Bj ho.1 st.next,Bj ho.2 st.clock⟩ λv1 hv=>?_
  rcases st.vers _ v1 hv with q | ⟨v0,a,b,c⟩<;>grind
open Go
theorem Sim.M_lt{C:Ctx}{S:Store}{w:World}(h:Sim C S w){b:Nat}(hM:C.M S b):b<w.heap.size:=by
 obtain⟨o,k,ho,hl⟩:=hM;cases hs:S o with
 | dead=>simp_all
 | cells ver e cs =>
  rcases h.cells o ver e cs hs with ⟨hn,_⟩ | ⟨b',k',c,a,hb,_⟩<;>grind
 | map ver es =>
  obtain⟨b',k',ms,cl,a,hb,_⟩:=h.maps o _ es hs
  grind
theorem Sim.still{C:Ctx}{S:Store}{w w':World}(h:Sim C S w)(ho:w'.os=w.os)(g:w'.tape=w.tape/\w.drawn<=w'.drawn)(j:w'.output=w.output)(l:w.heap.size<=w'.heap.size)
  (hb:∀b,b<w.heap.size->w'.heap[b]?=w.heap[b]?):Sim C S w'/\Step C S w C S w':=by
 have st:Step C S w C S w':=⟨ho,g,j,l,Ag _,Ag _,λb d hM=>⟨hb b d,hM⟩,λ_ v1 h=>.inr ⟨v1,h,Ag _,λ_=>rfl⟩⟩;refine⟨⟨h.lt,h.clk,h.dist,?_,?_⟩,st⟩
 ·intro o ver e cs hs;rcases h.cells o ver e cs hs with hn | ⟨b,k,c,h1,h2,h3,a,n,q⟩
  ·exact .inl hn
  ·exact .inr ⟨b,k,c,h1,(hb b (qN h2)).trans h2,h3,a,n,λi p v r hv=>(q i p v r hv).mono st⟩
 ·intro o ver es hs;obtain⟨b,k,ms,cl,h1,h2,h3,a⟩:=h.maps o ver es hs;exact⟨b,k,ms,cl,h1,(hb b (qN h2)).trans h2,h3,λi e m f hm=>⟨(a i e m f hm).1,(a i e m f hm).2.mono st⟩⟩
theorem Sim.drew{C:Ctx}{S:Store}{w:World}(h:Sim C S w):Sim C S w.drew/\Step C S w C S w.drew :=
 h.still rfl ⟨rfl,CO _⟩ rfl (Ag _) (λ_ _=>rfl)
theorem Zr(w:World)(o:Obj)(b:Nat)(h:b<w.heap.size):(w.alloc o).heap[b]?=w.heap[b]?:=by
 show (w.heap.push o)[b]?=_
 grind
theorem YY(w:World)(o:Obj):(w.alloc o).heap[w.heap.size]?=some o:=by
 show (w.heap.push o)[w.heap.size]?=_
 simp
theorem Sim.alloc{C:Ctx}{S:Store}{w:World}(h:Sim C S w)(o:Obj):Sim C S (w.alloc o)/\Step C S w C S (w.alloc o)/\¬C.M S w.heap.size:=by
 obtain⟨h1,h2⟩:=h.still (w':=w.alloc o) rfl ⟨rfl,Ag _⟩ rfl DP (λb hb=>Zr w o b hb);exact⟨h1,h2,λhM=>by have:=h.M_lt hM;omega⟩
theorem Sim.free{C:Ctx}{S:Store}{w:World}(h:Sim C S w):S C.next=.dead:=by
 cases hs:S C.next with
 | dead=>rfl
 | cells v e cs=>have:=h.lt C.next (by rw[hs];simp);omega
 | map v es=>have:=h.lt C.next (by rw[hs];simp);omega
def Ctx.put(C:Ctx)(o ver:Nat)(x:Option (Nat × Nat)):Ctx:={ loc:=λi=>if i=o then x else C.loc i,next:=max C.next (o+1),clock:=max C.clock (ver+1) }
structure Fresh (C:Ctx) (S:Store) (o ver:Nat):Prop where
 dead:S o=.dead
 new:C.next<=o\/C.clock<=ver
theorem Sim.step_new{C:Ctx}{S:Store}{w w':World}{o ver:Nat}(hf:Fresh C S o ver){x:Ob}(hx:x.ver=some ver)(l:Option (Nat × Nat))(ho:w'.os=w.os)(f:w'.tape=w.tape/\w.drawn<=w'.drawn)(g:w'.output=w.output)
  (h:w.heap.size<=w'.heap.size) (hb:∀b,b<w.heap.size->w'.heap[b]?=w.heap[b]?) (hl:∀b k,l=some (b,k)->w.heap.size<=b):Step C S w (C.put o ver l) (S.set o x) w':=by
 have a:∀i,i≠o->(C.put o ver l).loc i=C.loc i:=λi hi=>by simp_all[Ctx.put]
 have d:(C.put o ver l).loc o=l:=by simp[Ctx.put]
 refine⟨ho,f,g,h,by grind[Ctx.put],by grind[Ctx.put],λb e hM=>⟨hb b e,?_⟩,?_⟩
 ·rintro⟨i,k,hi,c⟩
  by_cases hc:i=o
  ·grind
  ·rw[a i hc]at c;rw[q10 _ _ _ _ hc]at hi;exact hM ⟨i,k,hi,c⟩
 ·intro i v1 hv
  by_cases hc:i=o
  ·subst hc;rw[q11,hx]at hv;cases hv;exact .inl hf.new
  simp_all[q10]
theorem Sim.object'{C:Ctx}{S:Store}{w:World}(h:Sim C S w){o ver:Nat}(hf:Fresh C S o ver)(e:TypeId)(c:Array Value)(cs:List PV)(hl:cs.length<=c.size)
  (h1:∀(i:Nat) (v:Value),i<cs.length->c[i]?=some v->v.oneCell'=true)
  (s:∀(i:Nat) (p:PV) (v:Value),cs[i]?=some p->c[i]?=some v->Rel C S w p v) :
  Sim (C.put o ver (some (w.heap.size,c.size))) (S.set o (.cells ver e cs)) (w.alloc (.cells c e)) /\
  Step C S w (C.put o ver (some (w.heap.size,c.size))) (S.set o (.cells ver e cs)) (w.alloc (.cells c e)):=by
 have a:∀i,i≠o->(C.put o ver (some (w.heap.size,c.size))).loc i=C.loc i:=λi hi=>by simp_all[Ctx.put]
 have d:(C.put o ver (some (w.heap.size,c.size))).loc o=some (w.heap.size,c.size):=by simp[Ctx.put]
 have st:Step C S w (C.put o ver (some (w.heap.size,c.size))) (S.set o (.cells ver e cs)) (w.alloc (.cells c e)) :=
  Sim.step_new hf rfl _ rfl ⟨rfl,Ag _⟩ rfl DP (λb hb=>Zr w _ b hb) (λb k z=>by simp_all)
 refine⟨⟨?_,?_,?_,?_,?_⟩,st⟩
 ·intro i hi
  by_cases hc:i=o
  ·grind[Ctx.put]
  ·rw[q10 _ _ _ _ hc]at hi;have:=h.lt i hi
   grind[Ctx.put]
 ·intro i v hv
  by_cases hc:i=o
  ·subst hc;rw[q11]at hv;cases hv;grind[Ctx.put]
  ·rw[q10 _ _ _ _ hc]at hv;have:=h.clk i v hv
   grind[Ctx.put]
 ·intro i l b k k' ho j hl f
  by_cases hc:i=o<;>by_cases g:l=o
  ·omega
  ·subst hc;rw[d]at hl;rw[a l g]at f;rw[q10 _ _ _ _ g]at j;have:=h.M_lt ⟨l,k',j,f⟩
   simp_all
  ·subst g;rw[d]at f;rw[a i hc]at hl;rw[q10 _ _ _ _ hc]at ho;have:=h.M_lt ⟨i,k,ho,hl⟩
   simp_all
  ·rw[a i hc]at hl;rw[a l g]at f;rw[q10 _ _ _ _ hc]at ho;rw[q10 _ _ _ _ g]at j;exact h.dist i l b k k' ho j hl f
 ·intro i ver' t cs' hs
  by_cases hc:i=o
  ·subst hc;rw[q11]at hs;cases hs;exact .inr ⟨w.heap.size,c.size,c,d,YY w _,rfl,hl,h1,λi p v q hv=>(s i p v q hv).mono st⟩
  ·rw[q10 _ _ _ _ hc]at hs;rcases h.cells i ver' t cs' hs with hn | ⟨b,k,u,g1,n,g3,g4,x,y⟩
   ·simp_all
   ·exact .inr ⟨b,k,u,(a i hc).trans g1,(Zr w _ b (qN n)).trans n,g3,g4,x,λi p v q hv=>(y i p v q hv).mono st⟩
 ·intro i ver' es hs
  by_cases hc:i=o
  ·simp_all[q11]
  ·rw[q10 _ _ _ _ hc]at hs;obtain⟨b,k,ms,cl,g1,n,g3,g4⟩:=h.maps i ver' es hs;exact⟨b,k,ms,cl,(a i hc).trans g1,(Zr w _ b (qN n)).trans n,g3,λi e m r hm=>⟨(g4 i e m r hm).1,(g4 i e m r hm).2.mono st⟩⟩
theorem Sim.kill{C:Ctx}{S S':Store}{w:World}(h:Sim C S w)(g:∀o,S' o=S o\/S' o=.dead):Sim C S' w/\Step C S w C S' w:=by
 have a:∀o,S' o≠.dead->S' o=S o:=λo ho=>(g o).resolve_right ho
 have hM:∀b,C.M S' b->C.M S b:=λb ⟨o,k,ho,hl⟩=>⟨o,k,by grind,hl⟩
 have st:Step C S w C S' w:=by
  refine⟨rfl,⟨rfl,Ag _⟩,rfl,Ag _,Ag _,Ag _,λb _ hb=>⟨rfl,λh=>hb (hM b h)⟩,λo v1 hv=>?_⟩;have:S' o≠.dead:=by intro e;rw[e]at hv;cases hv
  rw[a o this]at hv;exact .inr ⟨v1,hv,Ag _,λ_=>rfl⟩
 refine⟨⟨λo ho=>h.lt o DW,λo v hv=>h.clk o v (by rw[<-a o (by intro e;rw[e]at hv;cases hv)];exact hv),λo o' b k k' ho j=>h.dist o o' b k k' DW DW,?_,?_⟩,st⟩
 ·intro o ver e cs hs;have:=a o (by rw[hs];simp);rcases h.cells o ver e cs (this ▸ hs) with hn | ⟨b,k,c,h1,h2,h3,d,l,n⟩
  ·exact .inl hn
  ·exact .inr ⟨b,k,c,h1,h2,h3,d,l,λi p v q hv=>(n i p v q hv).mono st⟩
 ·intro o ver es hs;have:=a o (by rw[hs];simp);obtain⟨b,k,ms,cl,h1,h2,h3,d⟩:=h.maps o ver es (this ▸ hs);exact⟨b,k,ms,cl,h1,h2,h3,λi e m f hm=>⟨(d i e m f hm).1,(d i e m f hm).2.mono st⟩⟩
def Ctx.at(C:Ctx)(o ver:Nat)(l:Option (Nat × Nat)):Ctx:={ loc:=λi=>if i=o then l else C.loc i,next:=C.next,clock:=max C.clock (ver+1) }
theorem Sim.turn{C:Ctx}{S:Store}{w w':World}(h:Sim C S w){o ver e:Nat}{cs:List PV}(hs:S o=.cells ver e cs){ver':Nat}{cs':List PV}{l:Option (Nat × Nat)}
  (a2:ver<=ver') (a1:ver=ver'->l=C.loc o)
  (q:w.grownBy w' ((C.loc o).map (·.1))/\w.drawn<=w'.drawn)
  (hl:(l=none/\cs'=[])\/∃b k c,l=some (b,k)/\(w.heap.size<=b\/(C.loc o).map (·.1)=some b)/\w'.heap[b]?=some (.cells c e (0,0))/\c.size=k/\cs'.length<=k /\
   (∀(i:Nat) (v:Value),i<cs'.length->c[i]?=some v->v.oneCell'=true)/\∀(i:Nat) (p:PV) (v:Value),cs'[i]?=some p->c[i]?=some v->Rel C S w p v) :
  Sim (C.at o ver' l) (S.set o (.cells ver' e cs')) w' /\
  Step C S w (C.at o ver' l) (S.set o (.cells ver' e cs')) w':=by
 have n:S o≠.dead:=by rw[hs];simp
 have a:∀i,i≠o->(C.at o ver' l).loc i=C.loc i:=λi hi=>by simp[Ctx.at,hi]
 have d:(C.at o ver' l).loc o=l:=by simp[Ctx.at]
 have r:∀i b k,i≠o->S i≠.dead->C.loc i=some (b,k)->some b≠(C.loc o).map (·.1):=by
  intro i b k hi s hb g;cases ho:C.loc o with
  | none=>simp_all
  | some x =>
   obtain⟨b',k'⟩:=x;rw[ho]at g;simp only[A4,Option.some.injEq]at g;subst g;exact hi (h.dist i o b k k' s n hb ho)
 have st:Step C S w (C.at o ver' l) (S.set o (.cells ver' e cs')) w':=by
  refine⟨q.1.os,⟨q.1.tape,q.2⟩,q.1.output,q.1.size,Ag _,by grind[Ctx.at],λb hb hM=>⟨q.1.block b hb ?_,?_⟩,?_⟩
  ·intro g;cases ho:C.loc o with
   | none=>simp_all
   | some x =>
    obtain⟨b',k'⟩:=x;rw[ho]at g;simp only[A4,Option.some.injEq]at g;subst g;exact hM ⟨o,k',n,ho⟩
  ·rintro⟨i,k,s,f⟩
   by_cases hi:i=o
   ·subst hi;rw[d]at f;rcases hl with ⟨h0,_⟩ | ⟨b2,k2,c,h0,h1,_⟩
    ·simp_all
    ·rw[h0]at f;cases f;rcases h1 with h1 | h1
     ·omega
     ·cases ho:C.loc i with
      | none=>simp_all
      | some x =>
       obtain⟨b',k'⟩:=x;rw[ho]at h1;simp only[A4,Option.some.injEq]at h1;subst h1;exact hM ⟨i,k',n,ho⟩
   ·rw[a i hi]at f;rw[q10 _ _ _ _ hi]at s;exact hM ⟨i,k,s,f⟩
  ·grind[q11,Ob.ver,q10]
 refine⟨⟨?_,?_,?_,?_,?_⟩,st⟩
 ·intro i hi
  by_cases hc:i=o
  ·subst hc;exact h.lt i n
  ·rw[q10 _ _ _ _ hc]at hi;exact h.lt i hi
 ·intro i v hv
  by_cases hc:i=o
  ·subst hc;rw[q11]at hv;cases hv;grind[Ctx.at]
  ·rw[q10 _ _ _ _ hc]at hv;have:=h.clk i v hv
   grind[Ctx.at]
 ·have one:∀i b k k',i≠o->S i≠.dead->C.loc i=some (b,k)->l=some (b,k')->False:=by
   intro i b k k' hi s hb t;rcases hl with ⟨h0,_⟩ | ⟨b2,k2,c,h0,h1,_⟩
   ·simp_all
   ·rw[h0]at t;cases t;rcases h1 with h1 | h1
    ·have:=h.M_lt ⟨i,k,s,hb⟩;omega
    grind
  intro i j b k k' hi hj u y
  by_cases hc:i=o<;>by_cases z:j=o
  ·omega
  ·grind[q10]
  ·grind[q10]
  ·rw[a i hc]at u;rw[a j z]at y;rw[q10 _ _ _ _ hc]at hi;rw[q10 _ _ _ _ z]at hj;exact h.dist i j b k k' hi hj u y
 ·intro i v' e' ds hi
  by_cases hc:i=o
  ·subst hc;rw[q11]at hi;cases hi;rcases hl with ⟨h0,h1⟩ | ⟨b,k,c,h0,_,h2,h3,h4,h5,h6⟩
   ·simp_all
   ·exact .inr ⟨b,k,c,d.trans h0,h2,h3,h4,h5,λj p v hp hv=>(h6 j p v hp hv).mono st⟩
  ·rw[q10 _ _ _ _ hc]at hi;rcases h.cells i v' e' ds hi with hn | ⟨b,k,c',g1,g2,g3,g4,g5,g6⟩
   ·grind
   ·exact .inr ⟨b,k,c',(a i hc).trans g1,(q.1.block b (qN g2) (r i b k hc (by rw[hi];simp) g1)).trans g2,g3,g4,g5,λj p v hp hv=>(g6 j p v hp hv).mono st⟩
 ·intro i a0 es hi
  by_cases hc:i=o
  ·simp_all[q11]
  ·rw[q10 _ _ _ _ hc]at hi;obtain⟨b,k,ms,cl,g1,g2,g3,g4⟩:=h.maps i a0 es hi;exact⟨b,k,ms,cl,(a i hc).trans g1,(q.1.block b (qN g2) (r i b k hc (by rw[hi];simp) g1)).trans g2,g3,λj x m g hm=>⟨(g4 j x m g hm).1,(g4 j x m g hm).2.mono st⟩⟩
open Go
def QF(v:Value):PV :=
 match v with
 | .agg cs=>if cs.all (·.oneCell') then .agg (cs.toList.map .sc) else .sc v
 | v=>.sc v
def ev(F:Nat->PV):Operand->PV
 | .tmp t=>F t
 | .const v=>QF v
 | .global g=>.sc (.pointer (some ⟨g,0,none⟩))
 | .func f=>.fn (.func f) [] []
def wS(F:Nat->PV)(d:Nat)(p:PV):Nat->PV:=λi=>if i=d then p else F i
def yg(F:Nat->PV)(d:Option Nat)(p:PV):Nat->PV :=
 match d with
 | some d=>wS F d p
 | none=>F
theorem ZeN(F:Nat->PV)(d:Nat)(p:PV):wS F d p d=p:=by simp[wS]
theorem ZeO(F:Nat->PV)(d i:Nat)(p:PV)(h:i≠d):wS F d p i=F i:=by simp[wS,h]
def PV.cells:PV->List PV
 | .agg cs=>cs
 | p=>[p]
def PV.one:PV->Bool
 | .junk | .agg _ | .tup _=>false
 | .sc v=>v.oneCell'
 | _=>true
theorem VL{C:Ctx}{S:Store}{w:World}(v:Value):Rel C S w (QF v) v:=by
 unfold QF;split
 ·split
  ·rename_i cs h;refine .agg DP ?_ ?_
   ·grind
   ·intro i c v hc hv;simp only[Aj,Array.getElem?_toList,hv,A4,Option.some.injEq]at hc;subst hc;exact .sc v
  ·exact .sc _
 ·exact .sc _
theorem Rel.cells{C:Ctx}{S:Store}{w:World}{p:PV}{v:Value}(h:Rel C S w p v)(h1:p.cells.all PV.one=true):
  p.cells.length=v.cells.size/\(∀(i:Nat) (u:Value),v.cells[i]?=some u->u.oneCell'=true)/\∀(i:Nat) (c:PV) (u:Value),p.cells[i]?=some c->v.cells[i]?=some u->Rel C S w c u:=by
 cases h with
 | agg hl h2 l=>exact⟨hl,h2,l⟩
 | junk=>simp_all[PV.cells,PV.one]
 | tup=>simp_all[PV.cells,PV.one]
 | sc v =>
  simp only[PV.cells,PV.one,Cp,DB,CE]at h1;have hv:v.cells=#[v]:=by cases v<;>first | rfl | cases h1
  rw[hv];refine⟨rfl,?_,?_⟩
  ·grind
  ·intro i c u hc e;rcases i with _ | i
   ·simp[PV.cells]at hc e;subst hc;subst e;exact .sc _
   ·simp at e
 | lst0=>exact⟨rfl,by intro i u e;rcases i with _ | i<;>simp[Value.cells]at e;subst e;rfl,by intro i c u hc e;rcases i with _ | i<;>simp[PV.cells,Value.cells]at hc e;subst hc;subst e;exact .lst0⟩
 | lst1 g j a3 a4 a5 f k=>exact⟨rfl,by intro i u e;rcases i with _ | i<;>simp[Value.cells]at e;subst e;rfl,by intro i c u hc e;rcases i with _ | i<;>simp[PV.cells,Value.cells]at hc e;subst hc;subst e;exact .lst1 g j a3 a4 a5 f k⟩
 | nl0=>exact⟨rfl,by intro i u e;rcases i with _ | i<;>simp[Value.cells]at e;subst e;rfl,by intro i c u hc e;rcases i with _ | i<;>simp[PV.cells,Value.cells]at hc e;subst hc;subst e;exact .nl0⟩
 | nl g j a3 a4 a5 f=>exact⟨rfl,by intro i u e;rcases i with _ | i<;>simp[Value.cells]at e;subst e;rfl,by intro i c u hc e;rcases i with _ | i<;>simp[PV.cells,Value.cells]at hc e;subst hc;subst e;exact .nl g j a3 a4 a5 f⟩
 | ip a3 a4 a5 f k=>exact⟨rfl,by intro i u e;rcases i with _ | i<;>simp[Value.cells]at e;subst e;rfl,by intro i c u hc e;rcases i with _ | i<;>simp[PV.cells,Value.cells]at hc e;subst hc;subst e;exact .ip a3 a4 a5 f k⟩
 | ptr a b c =>
  obtain⟨x,rfl⟩:=a;exact⟨rfl,by intro i u e;rcases i with _ | i<;>simp[Value.cells]at e;subst e;rfl,by intro i c u hc e;rcases i with _ | i<;>simp[PV.cells,Value.cells]at hc e;subst hc;subst e;exact .ptr ⟨_,rfl⟩ b c⟩
 | sl a b c =>
  obtain⟨x,y,rfl,z⟩:=a;exact⟨rfl,by intro i u e;rcases i with _ | i<;>simp[Value.cells]at e;subst e;rfl,by intro i c u hc e;rcases i with _ | i<;>simp[PV.cells,Value.cells]at hc e;subst hc;subst e;exact .sl ⟨_,_,rfl,z⟩ b c⟩
 | fn a b c d=>exact⟨rfl,by intro i u e;rcases i with _ | i<;>simp[Value.cells]at e;subst e;rfl,by intro i c u hc e;rcases i with _ | i<;>simp[PV.cells,Value.cells]at hc e;subst hc;subst e;exact .fn a b ‹_› d⟩
 | ifc a=>exact⟨rfl,by intro i u e;rcases i with _ | i<;>simp[Value.cells]at e;subst e;rfl,by intro i c u hc e;rcases i with _ | i<;>simp[PV.cells,Value.cells]at hc e;subst hc;subst e;exact .ifc a⟩
 | mp a b c =>
  obtain⟨x,rfl⟩:=a;exact⟨rfl,by intro i u e;rcases i with _ | i<;>simp[Value.cells]at e;subst e;rfl,by intro i c u hc e;rcases i with _ | i<;>simp[PV.cells,Value.cells]at hc e;subst hc;subst e;exact .mp ⟨_,rfl⟩ b c⟩
def Xj(d:Option TypeDesc):Bool :=
 match d with
 | some (.struct _)=>true
 | some (.array _ _)=>true
 | _=>false
def Zs(P:Program)(t:TypeId)(cs:List PV):Option PV :=
 if Xj (P.underlying t) then (if P.cellsOf t<=cs.length then some (.agg (cs.take (P.cellsOf t))) else none) else cs.head?
def VM(op:BinOp)(k:IntKind)(a:Int)(k':IntKind)(b:Int):Option Value :=
 match op with
 | .shl=>if b<0 then none else some (.int k (k.wrap (a*2 ^ (min b.toNat k.bits))))
 | .shr=>if b<0 then none else some (.int k (a.fdiv (2 ^ (min b.toNat k.bits))))
 | .add=>if k=k' then some (.int k (k.wrap (a+b))) else none
 | .sub=>if k=k' then some (.int k (k.wrap (a-b))) else none
 | .mul=>if k=k' then some (.int k (k.wrap (a*b))) else none
 | .quo=>if k=k'/\b≠0 then some (.int k (k.wrap (a.tdiv b))) else none
 | .rem=>if k=k'/\b≠0 then some (.int k (a.tmod b)) else none
 | .and=>if k=k' then some (.int k (bits .and k a b)) else none
 | .or=>if k=k' then some (.int k (bits .or k a b)) else none
 | .xor=>if k=k' then some (.int k (bits .xor k a b)) else none
 | .andNot=>if k=k' then some (.int k (bits .andNot k a b)) else none
 | .eql=>if k=k' then some (.bool (a == b)) else none
 | .neq=>if k=k' then some (.bool (a != b)) else none
 | .lss=>if k=k' then some (.bool (decide (a<b))) else none
 | .leq=>if k=k' then some (.bool (decide (a<=b))) else none
 | .gtr=>if k=k' then some (.bool (decide (a > b))) else none
 | .geq=>if k=k' then some (.bool (decide (a>=b))) else none
theorem ZkH{P:Program}{w:World}{op:BinOp}{k k':IntKind}{a b:Int}{v:Value}(t:TypeId)(h:VM op k a k' b=some v):
  (binOp op t (.int k a) (.int k' b)).run P w=.ok v w:=by
 cases op<;>simp only[VM,C6,Option.ite_none_left_eq_some,Option.some.injEq]at h
 case shl=>obtain⟨h0,rfl⟩:=h;simp[binOp,Op.shift,h0]
 case shr=>obtain⟨h0,rfl⟩:=h;simp[binOp,Op.shift,h0]
 case quo=>obtain⟨⟨rfl,h0⟩,rfl⟩:=h;simp_all[binOp,Op.intDiv]
 case rem=>obtain⟨⟨rfl,h0⟩,rfl⟩:=h;simp_all[binOp,Op.intDiv]
 all_goals
  obtain⟨rfl,rfl⟩:=h;simp[binOp,Op.intArith,Op.intCmp,Op.intBits,bits]
def yC(op:BinOp)(x y:ByteArray):Option Value :=
 match op with
 | .add=>if x.size+y.size<=9223372036854775807 then some (.string (x++y)) else none
 | .eql=>some (.bool (x.toList == y.toList))
 | .neq=>some (.bool (!(x.toList == y.toList)))
 | .lss=>some (.bool (Op.bytesLess x.toList y.toList))
 | .leq=>some (.bool (Op.bytesLess x.toList y.toList || x.toList == y.toList))
 | .gtr=>some (.bool (!(Op.bytesLess x.toList y.toList || x.toList == y.toList)))
 | .geq=>some (.bool (!(Op.bytesLess x.toList y.toList)))
 | _=>none
theorem ZkI{P:Program}{w:World}{op:BinOp}{x y:ByteArray}{v:Value}(t:TypeId)(h:yC op x y=some v):
  (binOp op t (.string x) (.string y)).run P w=.ok v w:=by
 cases op<;>simp only[yC,C6,Option.some.injEq,reduceCtorEq]at h
 case add =>
  obtain⟨h0,rfl⟩:=h;simp only[binOp,Op.stringOp,IntKind.max_i64];rw[if_neg DO];rfl
 all_goals simp_all[binOp,Op.stringOp]
theorem ZeP{P:Program}{t:TypeId}(hb:P.underlying t=some .bool)(w:World)(a b:Bool):(Op.equal t (.bool a) (.bool b)).run P w=.ok (a == b) w:=by
 unfold Op.equal Op.maxDepth
 show (Op.equalIn (9999+1) _ _ _).run P w=_
 unfold Op.equalIn;simp[run_underlying hb]
theorem VN{P:Program}{t e:TypeId}(hb:P.underlying t=some (.pointer e))(w:World)(a:Option Addr):(Op.equal t (.pointer a) (.pointer none)).run P w=.ok a.isNone w:=by
 unfold Op.equal Op.maxDepth
 show (Op.equalIn (9999+1) _ _ _).run P w=_
 unfold Op.equalIn;cases a<;>simp[run_underlying hb]
def VO(P:Program)(op:BinOp)(t:TypeId)(x y:PV):Option PV :=
 match x,y with
 | .sc (.int k a),.sc (.int k' b)=>(VM op k a k' b).map .sc
 | .sc (.string a),.sc (.string b)=>(yC op a b).map .sc
 | .sc (.bool a),.sc (.bool b) =>
  match P.underlying t,op with
  | some .bool,.eql=>some (.sc (.bool (a == b)))
  | some .bool,.neq=>some (.sc (.bool (!(a == b))))
  | _,_=>none
 | .ptr _ _ _,.sc (.pointer none) =>
  match P.underlying t,op with
  | some (.pointer _),.eql=>some (.sc (.bool false))
  | some (.pointer _),.neq=>some (.sc (.bool true))
  | _,_=>none
 | .sc (.pointer none),.sc (.pointer none) =>
  match P.underlying t,op with
  | some (.pointer _),.eql=>some (.sc (.bool true))
  | some (.pointer _),.neq=>some (.sc (.bool false))
  | _,_=>none
 | _,_=>none
theorem ZkJ{P:Program}{C:Ctx}{S:Store}{w:World}{op:BinOp}{t:TypeId}{x y:PV}{p:PV}{u v:Value}(X Y:Operand)(h:VO P op t x y=some p)
  (b:Rel C S w x u) (hv:Rel C S w y v) :
  ∃r,(do eqGuard op t X Y u v;binOp op t u v:Sem Value).run P w=.ok r w/\Rel C S w p r:=by
 unfold VO at h;split at h
 ·cases b;cases hv;obtain⟨r,c,rfl⟩:=Ap.1 h;exact⟨r,by simp_all[eqGuard_at_int,ZkH],.sc _⟩
 ·cases b;cases hv;obtain⟨r,c,rfl⟩:=Ap.1 h;exact⟨r,by simp_all[eqGuard_at_string,ZkI],.sc _⟩
 ·cases b;cases hv;split at h
  ·rename_i hb;cases h;exact⟨_,by simp_all[eqGuard_at_bool,binOp,ZeP],.sc _⟩
  ·rename_i hb;cases h;exact⟨_,by simp_all[eqGuard_at_bool,binOp,ZeP],.sc _⟩
  ·cases h
 ·cases hv;cases b with
  | ptr h1 h2 h3 =>
   obtain⟨a,rfl⟩:=h1;split at h
   ·rename_i e hb;cases h;exact⟨_,by simp_all[eqGuard_at_pointer,binOp,VN],.sc _⟩
   ·rename_i e hb;cases h;exact⟨_,by simp_all[eqGuard_at_pointer,binOp,VN],.sc _⟩
   ·cases h
 ·cases b;cases hv;split at h
  ·rename_i e hb;cases h;exact⟨_,by simp_all[eqGuard_at_pointer,binOp,VN],.sc _⟩
  ·rename_i e hb;cases h;exact⟨_,by simp_all[eqGuard_at_pointer,binOp,VN],.sc _⟩
  ·cases h
 ·cases h
open Go
def Jt(P:Program)(t:TypeId)(x i:PV):Option PV :=
 match i with
 | .sc (.int _ n) =>
  match P.underlying t with
  | some (.slice e) =>
   match x with
   | .lst len cs=>if (0<=n/\n<(len:Int))/\P.cellsOf e≠0 then some (.ip (cs.drop (n.toNat * P.cellsOf e))) else none
   | .sl o ver _ off len=>if (0<=n/\n<(len:Int))/\P.cellsOf e≠0 then some (.ptr o ver (off+n.toNat * P.cellsOf e)) else none
   | _=>none
  | some (.array len e) =>
   match x with
   | .ip cs=>if (0<=n/\n<(len:Int))/\P.cellsOf e≠0 then some (.ip (cs.drop (n.toNat * P.cellsOf e))) else none
   | .ptr o ver off=>if (0<=n/\n<(len:Int))/\P.cellsOf e≠0 then some (.ptr o ver (off+n.toNat * P.cellsOf e)) else none
   | _=>none
  | _=>none
 | _=>none
theorem vt{P:Program}{t:TypeId}(h:P.cellsOf t≠0)(w:World):(sizeOf t).run P w=.ok (P.cellsOf t) w:=by
 unfold sizeOf typeInfo;unfold Program.cellsOf at h ⊢;cases hi:P.info? t<;>simp_all
theorem ZeQ{P:Program}{t:TypeId}{d:TypeDesc}(h:P.underlying t=some d)(w:World):(sizeOf t).run P w=.ok (P.cellsOf t) w:=by
 unfold sizeOf typeInfo Program.cellsOf;unfold Program.underlying at h;cases hi:P.info? t<;>simp_all
theorem WA{C:Ctx}{S:Store}{w:World}{c:Array Value}{o k:Nat}{cs:List PV}(hs:cs≠[]->o+cs.length<=c.size)
  (h1:∀(i:Nat) (v:Value),i<cs.length->c[o+i]?=some v->v.oneCell'=true)
  (h:∀(i:Nat) (p:PV) (v:Value),cs[i]?=some p->c[o+i]?=some v->Rel C S w p v) :
  (cs.drop k≠[]->(o+k)+(cs.drop k).length<=c.size)/\(∀(i:Nat) (v:Value),i<(cs.drop k).length->c[(o+k)+i]?=some v->v.oneCell'=true) /\
  ∀(i:Nat) (p:PV) (v:Value),(cs.drop k)[i]?=some p->c[(o+k)+i]?=some v->Rel C S w p v:=by
 refine⟨λa=>?_,λi v hi hv=>?_,λi p v d hv=>?_⟩
 ·have b:k<cs.length:=by
   rcases Bh k cs.length with h | h
   ·exact h
   ·exact absurd (BU h) a
  have:=hs (by intro e;rw[e]at b;simp at b);rw[Bo];omega
 ·rw[Bo]at hi;exact h1 (k+i) v DO (by rw[<-Nat.add_assoc];exact hv)
 grind
theorem Addr.add_plain(b o n:Nat):Addr.add ⟨b,o,none⟩ n=⟨b,o+n,none⟩:=Addr.add_lit b o n
theorem ZkK{P:Program}{C:Ctx}{S:Store}{w:World}{t:TypeId}{x i p:PV}{u v:Value}
  (h:Jt P t x i=some p) (g:Rel C S w x u) (hv:Rel C S w i v):∃r,(Instr.indexAt t u v).run P w=.ok r w/\Rel C S w p r:=by
 unfold Jt at h;split at h
 ·cases hv;rename_i k n;split at h
  ·rename_i e d;split at h
   ·rename_i len cs;split at h
    ·rename_i hn;obtain⟨hn,c⟩:=hn;cases h;cases g with
     | lst0=>omega
     | lst1 q hm hb hM hs h1 j =>
      obtain⟨g1,l,g3⟩:=WA (k:=n.toNat * P.cellsOf e) hs h1 j;refine⟨_,?_,.ip hb hM g1 l g3⟩;simp[Instr.indexAt,asIntOf,run_underlying d,hn,vt c,Addr.add_plain]
    ·cases h
   ·rename_i o ver sz off len;split at h
    ·rename_i hn;obtain⟨hn,c⟩:=hn;cases h;cases g with
     | sl h1 h2 h3 =>
      obtain⟨a,cap,rfl,k1,y,z,s⟩:=h1;obtain⟨b,f,rfl⟩:=s DO;refine⟨_,by simp[Instr.indexAt,asIntOf,run_underlying d,hn,vt c,Addr.add_plain];rfl,.ptr ⟨_,rfl⟩ h2 λv0 m=>?_⟩
      grind
    ·cases h
   ·cases h
  ·rename_i len e d;split at h
   ·rename_i cs;split at h
    ·rename_i hn;obtain⟨hn,c⟩:=hn;cases h;cases g with
     | ip hb hM hs h1 j =>
      obtain⟨g1,l,g3⟩:=WA (k:=n.toNat * P.cellsOf e) hs h1 j;refine⟨_,?_,.ip hb hM g1 l g3⟩;simp[Instr.indexAt,asIntOf,run_underlying d,hn,vt c,Addr.add_plain,Instr.sureAddr]
    ·cases h
   ·rename_i o ver off;split at h
    ·rename_i hn;obtain⟨hn,c⟩:=hn;cases h;cases g with
     | ptr h1 h2 h3 =>
      obtain⟨a,rfl⟩:=h1;refine⟨_,by simp[Instr.indexAt,asIntOf,run_underlying d,hn,vt c,Instr.sureAddr];rfl,.ptr ⟨_,rfl⟩ h2 λv0 m=>?_⟩
      grind[Addr.add_plain]
    ·cases h
   ·cases h
  ·cases h
 ·cases h
def VP(P:Program)(t:TypeId)(x:PV)(f:Nat):Option PV :=
 match P.underlying t with
 | some (.struct fs) =>
  match fs[f]? with
  | some fd =>
   if P.cellsOf fd.type=0 then none else
   match x with
   | .ip cs=>some (.ip (cs.drop fd.offset))
   | .ptr o ver off=>some (.ptr o ver (off+fd.offset))
   | _=>none
  | none=>none
 | _=>none
theorem ZkL{P:Program}{C:Ctx}{S:Store}{w:World}{t:TypeId}{x p:PV}{f:Nat}{u:Value}(h:VP P t x f=some p)(d:Rel C S w x u):
  ∃r,(Instr.fieldAt t u f).run P w=.ok r w/\Rel C S w p r:=by
 unfold VP at h;split at h
 ·rename_i fs e;split at h
  ·rename_i g hf;split at h
   ·cases h
   ·rename_i c;have b:=vt c w;split at h
    ·cases h;cases d with
     | ip hb hM hs h1 i =>
      obtain⟨g1,j,g3⟩:=WA (k:=g.offset) hs h1 i;refine⟨_,?_,.ip hb hM g1 j g3⟩;simp[Instr.fieldAt,run_underlying e,hf,Instr.sureAddr,fieldPlace,b,c,Addr.add_plain]
    ·cases h;cases d with
     | ptr h1 h2 h3 =>
      obtain⟨a,rfl⟩:=h1;refine⟨_,by simp[Instr.fieldAt,run_underlying e,hf,Instr.sureAddr,fieldPlace,b,c];rfl,.ptr ⟨_,rfl⟩ h2 λv0 l=>?_⟩
      grind[Addr.add_plain]
    ·cases h
  ·cases h
 ·cases h
theorem VQ(c:Array Value)(o:Nat):c.extract o o=#[]:=DW
theorem ZeR{P:Program}{w:World}{b o:Nat}{c:Array Value}{e:TypeId}{fz:Nat × Nat}(hb:w.heap[b]?=some (.cells c e fz)):
  ∀(n i:Nat) (a:Array Value),o+i+n<=c.size->(loadCellsFrom ⟨b,o,none⟩ i n a).run P w=.ok (a++c.extract (o+i) (o+i+n)) w:=by
 intro n
 induction n with
 | zero =>
  simp[loadCellsFrom,VQ]
 | succ n d =>
  intro i a h;have hc:w.cell? ⟨b,o+i,none⟩=some (c[o+i]' DO):=by
   simp[World.cell?,hb]
  unfold loadCellsFrom;simp only[Sem.run_bind,run_load,Addr.add_plain,hc,An];rw[d (i+1) _ DO];congr 1
  grind
theorem ZeS{P:Program}{t:TypeId}{d:TypeDesc}(h:P.underlying t=some d)(w:World):(isAgg t).run P w=.ok (Xj (P.underlying t)) w:=by
 unfold isAgg;rw[h];simp only[Sem.run_bind,run_underlying h,An];cases d<;>rfl
theorem ZbP{P:Program}{C:Ctx}{S:Store}{w:World}{b o:Nat}{c:Array Value}{e:TypeId}{fz:Nat × Nat}{t:TypeId}{cs:List PV}{p:PV}{d:TypeDesc}(j:P.underlying t=some d)
  (hb:w.heap[b]?=some (.cells c e fz)) (hs:cs≠[]->o+cs.length<=c.size)
  (h1:∀(i:Nat) (v:Value),i<cs.length->c[o+i]?=some v->v.oneCell'=true)
  (h:∀(i:Nat) (q:PV) (v:Value),cs[i]?=some q->c[o+i]?=some v->Rel C S w q v) (a:Zs P t cs=some p) :
  ∃r,(loadVar t ⟨b,o,none⟩).run P w=.ok r w/\Rel C S w p r:=by
 unfold Zs at a;unfold loadVar;simp only[Sem.run_bind,ZeS j,An];cases k:Xj (P.underlying t)
 ·simp only[k,AT,if_false]at a ⊢;cases cs with
  | nil=>cases a
  | cons q l =>
   cases a;have:=hs DP;simp only[Ae]at this;have hc:w.cell? ⟨b,o,none⟩=some (c[o]' DO):=by simp[World.cell?,hb]
   refine⟨c[o]' DO,by simp_all,?_⟩;exact h 0 p _ rfl DP
 ·simp only[k,if_true]at a ⊢;split at a
  ·rename_i g;cases a;refine⟨.agg (c.extract o (o+P.cellsOf t)),?_,?_⟩
   ·simp only[Sem.run_bind,ZeQ j,An,loadCells]
    by_cases h0:P.cellsOf t=0
    ·simp_all[loadCellsFrom,VQ]
    ·have f:cs≠[]:=by intro e;rw[e]at g;simp at g;exact h0 g
     have:=hs f;have m:=ZeR (P:=P) (o:=o) hb (P.cellsOf t) 0 #[] DO
     simp_all
   ·by_cases h0:P.cellsOf t=0
    ·rw[h0,By,VQ];refine .agg DP ?_ ?_
     ·intro i v hv;simp at hv
     ·intro i c v hc;simp at hc
    have f:cs≠[]:=by intro e;rw[e]at g;simp at g;exact h0 g
    have:=hs f;have hx:∀(i:Nat) (v:Value),(c.extract o (o+P.cellsOf t))[i]?=some v->i<P.cellsOf t/\c[o+i]?=some v:=by
     intro i v hv;rw[BV]at hv;split at hv
     ·exact⟨by omega,hv⟩
     ·cases hv
    refine .agg DT ?_ ?_<;>grind
  ·cases a
theorem VR{P:Program}{C:Ctx}{S:Store}{w:World}{t:TypeId}{d:TypeDesc}(b:P.underlying t=some d){cs:List PV}{vs:Array Value}{o:Nat}{p:PV}(hl:cs.length=vs.size)
  (h1:∀(i:Nat) (v:Value),vs[i]?=some v->v.oneCell'=true) (h:∀(i:Nat) (c:PV) (v:Value),cs[i]?=some c->vs[i]?=some v->Rel C S w c v)
  (a:Zs P t (cs.drop o)=some p):∃r,(part t vs o).run P w=.ok r w/\Rel C S w p r:=by
 unfold Zs at a;unfold part;simp only[Sem.run_bind,ZeS b,An];cases e:Xj (P.underlying t)
 ·simp only[e,AT,if_false]at a ⊢;rw[List.head?_drop]at a;have ho:o<cs.length:=(Ad.1 a).1;have hv:vs[o]?=some (vs[o]' DO):=DP
  exact⟨_,by simp[hv],h o p _ a hv⟩
 ·simp only[e,if_true]at a ⊢;split at a
  ·rename_i f;cases a;rw[Bo]at f;refine⟨.agg (vs.extract o (o+P.cellsOf t)),by simp[ZeQ b],?_⟩
   by_cases h0:P.cellsOf t=0
   ·rw[h0,By,VQ];refine .agg DP ?_ ?_
    ·intro i v hv;simp at hv
    ·intro i c v hc;simp at hc
   have hx:∀(i:Nat) (v:Value),(vs.extract o (o+P.cellsOf t))[i]?=some v->i<P.cellsOf t/\vs[o+i]?=some v:=by
    intro i v hv;rw[BV]at hv;split at hv
    ·exact⟨by omega,hv⟩
    ·cases hv
   refine .agg DT ?_ ?_<;>grind
  ·cases a
open Go
def RelL(C:Ctx)(S:Store)(w:World)(cs:List PV)(vs:Array Value):Prop :=
 cs.length=vs.size/\(∀(i:Nat) (v:Value),vs[i]?=some v->v.oneCell'=true)/\∀(i:Nat) (c:PV) (v:Value),cs[i]?=some c->vs[i]?=some v->Rel C S w c v
theorem RelL.mono{C C':Ctx}{S S':Store}{w w':World}(st:Step C S w C' S' w'){cs:List PV}{vs:Array Value}(h:RelL C S w cs vs):RelL C' S' w' cs vs :=
 ⟨h.1,h.2.1,λi c v hc hv=>(h.2.2 i c v hc hv).mono st⟩
theorem ZkM(l:List Value):∀(k off:Nat) (cells:Array Value),off+k+l.length<=cells.size ->
  ((l.zipIdx k).foldl (λcs x=>cs.setIfInBounds (off+x.2) x.1) cells).size=cells.size /\
  ∀i,((l.zipIdx k).foldl (λcs x=>cs.setIfInBounds (off+x.2) x.1) cells)[i]?=if off+k<=i/\i<off+k+l.length then l[i-(off+k)]? else cells[i]?:=by
 induction l with
 | nil=>simp[if_neg]
 | cons x xs a =>
  intro k off cells h;simp only[Ae]at h;simp only[List.zipIdx_cons,A5];obtain⟨h1,h2⟩:=a (k+1) off (cells.setIfInBounds (off+k) x) DT;refine⟨by rw[h1];simp,λi=>?_⟩;rw[h2 i];simp only[Ae]
  by_cases hi:i=off+k
  ·subst hi;rw[if_neg DO,if_pos DO];have:off+k<cells.size:=DO
   simp[this]
  grind
def PV.fit:PV->Bool
 | .agg _=>true
 | p=>p.one
def Yi(place:Nat->Option (Nat × Nat))(cells:List PV):List (Nat × PV)->Option (List PV)
 | []=>some cells
 | (i,p) :: rest =>
  match place i with
  | none=>none
  | some (off,size) =>
   if p.cells.length=size/\off+size<=cells.length/\p.fit=true then Yi place (cells.take off++p.cells++cells.drop (off+size)) rest else none
theorem Rel.cells'{C:Ctx}{S:Store}{w:World}{p:PV}{v:Value}(h:Rel C S w p v)(h1:p.fit=true):RelL C S w p.cells v.cells:=by
 cases p with
 | agg cs=>cases h with | agg hl h1 h2=>exact⟨hl,h1,h2⟩
 | junk=>cases h1
 | tup=>cases h1
 | sc v=>exact h.cells (by simp[PV.cells];exact h1)
 | _=>exact h.cells (by simp[PV.cells,PV.one])
theorem ZeT{C:Ctx}{S:Store}{w:World}{place:Nat->Option (Nat × Nat)}(F:Operand->PV)(ρ:Operand->Value)(d:∀x,Rel C S w (F x) (ρ x)):
  ∀(parts:List (Nat × Operand)) (cs:List PV) (vs:Array Value) (cs':List PV),RelL C S w cs vs->Yi place cs (parts.map λx=>(x.1,F x.2))=some cs' ->
   ∃vs',Instr.fill place vs (parts.map λx=>(x.1,ρ x.2))=some vs'/\RelL C S w cs' vs':=by
 intro parts
 induction parts with
 | nil=>intro cs vs cs' h hf;cases hf;exact⟨vs,rfl,h⟩
 | cons x xs f =>
  intro cs vs cs' h hf;obtain⟨i,x⟩:=x;simp only[AD,Yi]at hf;split at hf
  ·cases hf
  ·rename_i off size n;split at hf
   ·rename_i hc;obtain⟨g,k,a⟩:=hc;have l:=(d x).cells' a;obtain⟨hl,h1,h2⟩:=h;obtain⟨o,g1,p⟩:=l;obtain⟨s1,s2⟩:=ZkM (ρ x).cells.toList 0 off vs DT;simp only[By,Array.length_toList]at s1 s2;refine Exists.imp (λvs'=>And.imp_left λe=>?_) (f _ (((ρ x).cells.toList.zipIdx 0).foldl (λcs x=>cs.setIfInBounds (off+x.2) x.1) vs) cs' ?_ hf)
    ·grind[Instr.fill,Array.toList_zipIdx]
    ·refine⟨?_,?_,?_⟩
     ·rw[s1];simp;omega
     ·grind
     ·intro j c v b hv;rw[s2 j]at hv;split at hv
      ·grind
      ·rename_i q
       by_cases m:j<off
       ·grind[List.getElem?_append_left]
       ·rw[Ak DT,Am,Ax,Bf DO,AP]at b
        grind
   ·cases hf
def Program.zeroOf(P:Program)(t:TypeId):Option Value:=(P.info? t).bind (·.zero)
theorem Ju{P:Program}{t:TypeId}{z:Value}(h:Program.zeroOf P t=some z)(w:World):(zeroValue t).run P w=.ok z w:=by
 unfold zeroValue typeInfo;unfold Program.zeroOf at h;cases hi:P.info? t<;>simp_all
def jI(z:Value):List PV:=z.cells.toList.map .sc
theorem ZeU{C:Ctx}{S:Store}{w:World}{z:Value}(h:z.cells.all (·.oneCell')=true):RelL C S w (jI z) z.cells:=by
 refine⟨by simp[jI],?_,?_⟩
 ·grind
 ·intro i c v hc hv;simp only[jI,Aj,Array.getElem?_toList,hv,A4,Option.some.injEq]at hc;subst hc;exact .sc v
def ZbQ(P:Program)(t:TypeId):Nat->Option (Nat × Nat):=λi =>
 match P.underlying t with
 | some (.struct fs) =>
  match fs[i]? with
  | some f=>some (f.offset,P.cellsOf f.type)
  | none=>none
 | some (.array _ e)=>some (i*P.cellsOf e,P.cellsOf e)
 | _=>none
def ZbR(P:Program)(t:TypeId):Bool :=
 match P.underlying t with
 | some (.struct fs)=>fs.all λf=>(P.info? f.type).isSome
 | some (.array _ e)=>(P.info? e).isSome
 | _=>false
def VS(P:Program)(t:TypeId)(parts:List (Nat × PV)):Option PV :=
 match Program.zeroOf P t with
 | none=>none
 | some z=>if z.cells.all (·.oneCell')=true/\ZbR P t=true then (Yi (ZbQ P t) (jI z) parts).map .agg else none
theorem ZeV{P:Program}{t:TypeId}(h:(P.info? t).isSome=true)(w:World):(sizeOf t).run P w=.ok (P.cellsOf t) w:=by
 unfold sizeOf typeInfo Program.cellsOf;cases hi:P.info? t<;>simp_all
theorem ZkN{P:Program}{w:World}:∀(l:List Field),(∀f∈l,(P.info? f.type).isSome=true) ->
  (l.mapM λf=>(do pure (f.offset,<-sizeOf f.type):Sem (Nat × Nat))).run P w=.ok (l.map λf=>(f.offset,P.cellsOf f.type)) w:=by
 intro l
 induction l<;>simp_all[ZeV]
theorem ZkO{P:Program}{C:Ctx}{S:Store}{w:World}{t:TypeId}{parts:List (Nat × Operand)}{p:PV}(F:Operand->PV)(ρ:Operand->Value)(k:∀x,Rel C S w (F x) (ρ x))
  (h:VS P t (parts.map λx=>(x.1,F x.2))=some p):∃r,(Instr.build t (parts.map λx=>(x.1,ρ x.2)).toArray).run P w=.ok r w/\Rel C S w p r:=by
 unfold VS at h;split at h
 ·cases h
 ·rename_i z l;split at h
  ·rename_i hc;obtain⟨b,a⟩:=hc;obtain⟨cs',hf,rfl⟩:=Ap.1 h;obtain⟨vs',hv,c⟩:=ZeT F ρ k parts _ _ _ (ZeU b) hf;refine⟨.agg vs',?_,.agg c.1 c.2.1 c.2.2⟩;unfold Instr.build;simp only[Sem.run_bind,Ju l,An];unfold ZbR at a;unfold ZbQ at hv;cases j:P.underlying t with
   | none=>simp_all
   | some d =>
    rw[j]at a hv;cases d with
    | struct fs =>
     simp only at a hv;simp only[run_underlying j,An,Sem.run_bind];have hm:=ZkN (P:=P) (w:=w) fs.toList (λf hf=>by
      rw[Array.all_eq_true_iff_forall_mem]at a;exact a f (B9.1 hf))
     have g:(fs.mapM λf=>(do pure (f.offset,<-sizeOf f.type):Sem (Nat × Nat))).run P w=.ok (fs.map λf=>(f.offset,P.cellsOf f.type)) w:=by
      rw[<-Array.toArray_toList (xs:=fs),List.mapM_toArray];simp only[Sem.run_map,hm,An];congr 1;apply BK.1;simp
     rw[g];simp only[An];have m:(λ(x:Nat)=>(fs.map λ(f:Field)=>(f.offset,P.cellsOf f.type))[x]?)=(λi=>match fs[i]? with | some (f:Field)=>some (f.offset,P.cellsOf f.type) | none=>none):=by
      funext i;rw[Array.getElem?_map];cases fs[i]?<;>rfl
     simp_all
    | array n e =>
     simp_all[run_underlying,ZeV]
    | _=>cases a
  ·cases h
def qa(n:Nat)(z:Value):List PV:=(List.range (n*z.cells.size)).map λi=>.sc (z.cells[i % z.cells.size]!)
theorem ZeW{C:Ctx}{S:Store}{w:World}{z:Value}(h:z.cells.all (·.oneCell')=true)(n:Nat):
  RelL C S w (qa n z) ((Array.range (n*z.cells.size)).map (z.cells[· % z.cells.size]!)):=by
 refine⟨by simp[qa],?_,?_⟩
 ·grind[Nat.mod_lt]
 ·intro i c v hc hv;rw[Array.getElem?_map,Ap]at hv;obtain⟨j,a,rfl⟩:=hv;obtain⟨h1,h2⟩:=Bb.1 a;simp at h1 h2;subst h2;simp only[qa,Aj,Bl h1,A4,Option.some.injEq]at hc;subst hc;exact .sc _
def ZM(P:Program)(e:TypeId)(len:Nat)(parts:List (Nat × PV)):Option (List PV) :=
 match Program.zeroOf P e with
 | none=>none
 | some z=>if z.cells.all (·.oneCell')=true/\z.cells.size=P.cellsOf e/\P.cellsOf e≠0/\len*P.cellsOf e<=2 ^ 24 then
   Yi (λi=>some (i*P.cellsOf e,P.cellsOf e)) (qa len z) parts else none
theorem ZbS{P:Program}{C:Ctx}{S:Store}{w:World}{t e:TypeId}{len:Nat}{parts:List (Nat × Operand)}{cs:List PV}(k:P.underlying t=some (.slice e))(F:Operand->PV)(ρ:Operand->Value)
  (m:∀x,Rel C S w (F x) (ρ x)) (h:ZM P e len (parts.map λx=>(x.1,F x.2))=some cs) :
  ∃vs,(Instr.buildSlice t len (parts.map λx=>(x.1,ρ x.2)).toArray).run P w=.ok (.slice (some ⟨w.heap.size,0,none⟩) len len) (w.alloc (.cells vs e))/\RelL C S w cs vs/\vs.size=len*P.cellsOf e:=by
 unfold ZM at h;split at h
 ·cases h
 ·rename_i z q;split at h
  ·rename_i hc;obtain⟨d,n,h0,o⟩:=hc;obtain⟨vs',hv,i⟩:=ZeT F ρ m parts _ _ _ (ZeW d len) h;have f:∀(l:List (Nat × PV)) (a b:List PV) (j:Nat->Option (Nat × Nat)),Yi j a l=some b->b.length=a.length:=by
    intro l
    induction l with
    | nil=>intro a b j p;cases p;rfl
    | cons x xs r =>
     grind[Yi]
   refine⟨vs',?_,i,?_⟩
   ·unfold Instr.buildSlice;simp only[Sem.run_bind,run_underlying k,An,vt h0];rw[if_neg DO]
    by_cases g:len*P.cellsOf e=0
    ·have c:len=0:=by
      rcases Nat.mul_eq_zero.1 g with h | h
      ·exact h
      ·exact absurd h h0
     subst c;simp only[CY,Dm,DC]at hv;simp only[CY,if_true,Sem.run_pure,An,Sem.run_bind,Dm,DC];rw[hv];simp[newRow]
    simp_all[Ju,newRow]
   ·rw[<-i.1,f _ _ _ _ h];simp_all[qa]
  ·cases h
open Go
def wJ(d:Nat)(x:Option PV):Option Nat :=
 match x with
 | none=>some d
 | some (.sc (.int _ n))=>if 0<=n then some n.toNat else none
 | _=>none
theorem ZbT{P:Program}{C:Ctx}{S:Store}{w:World}{d b y:Nat}{x:Option PV}{u:Option Value}(h:wJ d x=some b)(hx:∀p,x=some p->∃v,u=some v/\Rel C S w p v)(hn:x=none->u=none)
  (hb:b<=y) (a:BoundsCode):(u=none/\b=d)\/∃v,u=some v/\(Instr.sliceBound v y a).run P w=.ok b w:=by
 unfold wJ at h;split at h
 ·simp_all
 ·split at h
  ·rename_i k n e;cases h;obtain⟨v,hv,c⟩:=hx _ rfl;cases c
   simp_all[Instr.sliceBound,asIntOf]
  ·cases h
 ·cases h
def VT(P:Program)(t:TypeId)(x:PV)(lo hi mx:Option PV):Option PV :=
 match wJ 0 lo with
 | none=>none
 | some l =>
  match x with
  | .lst n cs =>
   match P.underlying t,wJ n hi,wJ n mx with
   | some (.slice e),some h,some m =>
    if l<=h/\h<=m/\m<=n/\P.cellsOf e≠0/\(mx.isSome=true->hi.isSome=true) then some (.lst (h-l) ((cs.drop (l*P.cellsOf e)).take ((h-l)*P.cellsOf e))) else none
   | _,_,_=>none
  | .sl o ver sz off n =>
   match P.underlying t,wJ n hi with
   | some (.slice e),some h=>if l<=h/\h<=n/\P.cellsOf e≠0/\sz=P.cellsOf e/\mx.isSome=false then some (.sl o ver sz (off+l*sz) (h-l)) else none
   | _,_=>none
  | .sc (.string s) =>
   match P.underlying t,wJ s.size hi with
   | some .string,some h=>if l<=h/\h<=s.size/\mx.isSome=false then some (.sc (.string (s.extract l h))) else none
   | _,_=>none
  | _=>none
theorem VU{P:Program}{C:Ctx}{S:Store}{w:World}{n cap l h m:Nat}{lo hi mx:Option PV}{c d umx:Option Value}(b:Bool)(hl:wJ 0 lo=some l)(r:wJ n hi=some h)
  (hm:wJ cap mx=some m) (h1:l<=h) (h2:h<=m) (h3:m<=cap) (j:mx.isSome=true->hi.isSome=true)
  (g:(∀p,lo=some p->∃v,c=some v/\Rel C S w p v)/\(lo=none->c=none)) (i:(∀p,hi=some p->∃v,d=some v/\Rel C S w p v)/\(hi=none->d=none))
  (e:(∀p,mx=some p->∃v,umx=some v/\Rel C S w p v)/\(mx=none->umx=none)) :
  (Instr.sliceBounds b n cap c d umx).run P w=.ok (l,h,m) w:=by
 unfold Instr.sliceBounds;have hM:∀a,(umx=none/\m=cap)\/∃v,umx=some v/\(Instr.sliceBound v cap a).run P w=.ok m w:=λa=>ZbT hm e.1 e.2 h3 a
 have o:∀y a,h<=y->(d=none/\h=n)\/∃v,d=some v/\(Instr.sliceBound v y a).run P w=.ok h w:=λy a s=>ZbT r i.1 i.2 s a
 have t:∀a,(c=none/\l=0)\/∃v,c=some v/\(Instr.sliceBound v h a).run P w=.ok l w:=λa=>ZbT hl g.1 g.2 h1 a
 have low:∀a,(match c with | some v=>(do let l <-Instr.sliceBound v h a;pure (l,h,m)) | none=>(do let l <-pure 0;pure (l,h,m)):Sem (Nat × Nat × Nat)).run P w=.ok (l,h,m) w:=by
  intro a;rcases t a with ⟨rfl,rfl⟩ | ⟨v,rfl,hv⟩
  ·rfl
  ·simp_all
 rcases hM (if b then .slice3Acap else .slice3Alen) with ⟨rfl,rfl⟩ | ⟨x,rfl,k⟩
 ·rcases o m (if b then .sliceAcap else .sliceAlen) h2 with ⟨rfl,rfl⟩ | ⟨u,rfl,f⟩
  ·exact low _
  ·simp only[pure_bind];rw[Sem.run_bind,f];exact low _
 ·rcases o m .slice3B h2 with ⟨rfl,rfl⟩ | ⟨u,rfl,f⟩
  ·have:hi.isSome=true:=j (by
    cases q:mx with
    | none=>have:=e.2 q;cases this
    | some _=>rfl)
   cases q:hi<;>simp_all
  ·simp only;rw[Sem.run_bind,k];simp only[An];rw[Sem.run_bind,f];exact low _
theorem ZkP{n b:Nat}{x:Option PV}(y:Nat)(h:wJ n x=some b):x≠none->wJ y x=some b:=by
 intro hx;unfold wJ at h ⊢
 grind
theorem ZkQ{P:Program}{C:Ctx}{S:Store}{w:World}{t:TypeId}{x p:PV}{lo hi mx:Option PV}{u:Value}{j y umx:Option Value}(h:VT P t x lo hi mx=some p)(hu:Rel C S w x u)
  (z:(∀p,lo=some p->∃v,j=some v/\Rel C S w p v)/\(lo=none->j=none)) (a0:(∀p,hi=some p->∃v,y=some v/\Rel C S w p v)/\(hi=none->y=none))
  (g:(∀p,mx=some p->∃v,umx=some v/\Rel C S w p v)/\(mx=none->umx=none)):∃r,(Instr.sliceAt t u j y umx).run P w=.ok r w/\Rel C S w p r:=by
 unfold VT at h;split at h
 ·cases h
 rename_i l hl;split at h
 ·rename_i n cs;split at h
  ·rename_i e hb m ht hh hm;split at h
   ·rename_i hc;obtain⟨c1,c2,c3,c4,c5⟩:=hc;cases h;have sz:=vt c4 w;have a3:∀(a:Option Addr) (cap:Nat),n<=cap->∃m',hb<=m'/\(Instr.sliceAt t (.slice a n cap) j y umx).run P w=.ok (.slice (if m'=l then a else a.map (·.add (l*P.cellsOf e))) (hb-l) (m'-l)) w:=by
     intro a cap c7;cases hq:mx with
     | none =>
      have d:wJ cap (none:Option PV)=some cap:=rfl;have:=VU (P:=P) true hl hh (hq ▸ d:wJ cap mx=some cap) c1 DO (Ag _) c5 z a0 g;refine⟨cap,by omega,?_⟩;simp only[Instr.sliceAt,Sem.run_bind,run_underlying ht,An,Instr.slice,this,sz,Sem.run_pure]
     | some pm =>
      have d:=ZkP cap hm (by rw[hq];simp);have:=VU (P:=P) (n:=n) (cap:=cap) true hl hh d c1 c2 DO c5 z a0 g;refine⟨m,by omega,?_⟩;simp only[Instr.sliceAt,Sem.run_bind,run_underlying ht,An,Instr.slice,this,sz,Sem.run_pure]
    cases hu with
    | lst0 =>
     obtain⟨m',a6,hr⟩:=a3 _ _ (Cj _);have:hb-l=0:=DO
     refine⟨_,hr,?_⟩;rw[this];simp only[List.drop_nil,Ds];exact .lst0
    | lst1 hn d1 a7 hM hs h1 hr =>
     rename_i cap b o c ee fz;obtain⟨m',a6,a8⟩:=a3 _ _ hn;refine⟨_,a8,?_⟩;obtain⟨g1,g2,g3⟩:=WA (k:=l*P.cellsOf e) hs h1 hr
     by_cases a9:m'=l
     ·have:hb-l=0:=DO
      rw[this];simp only[CY,Dh];exact .lst0
     ·rw[if_neg a9];simp only[A4,Addr.add_plain];refine .lst1 DO DO a7 hM (λa1=>?_) (λi v hi hv=>?_) (λi q v hq hv=>?_)
      ·have:=g1 (by intro e0;rw[e0]at a1;simp at a1)
       grind
      ·simp only[Ax]at hi;exact g2 i v DO hv
      ·by_cases b7:i<(hb-l)*P.cellsOf e
       ·rw[AL b7]at hq;exact g3 i q v hq hv
       ·rw[Ao DT]at hq;cases hq
   ·cases h
  ·cases h
 ·rename_i o ver sz off n;split at h
  ·rename_i e hb ht hh;split at h
   ·rename_i hc;obtain⟨c1,c2,c3,rfl,c5⟩:=hc;cases h;have f:mx=none:=by cases mx with | none=>rfl | some _=>cases c5
    cases hu with
    | sl h1 h2 h3 =>
     obtain⟨a,cap,rfl,k1,k2,k3,k4⟩:=h1;have d:wJ cap mx=some cap:=by rw[f];rfl
     have a2:=VU (P:=P) (n:=n) (cap:=cap) true hl hh d c1 DO (Ag _) (by rw[f];simp) z a0 g;refine⟨.slice (if cap=l then a else a.map (·.add (l*P.cellsOf e))) (hb-l) (cap-l),?_,?_⟩
     ·simp only[Instr.sliceAt,Sem.run_bind,run_underlying ht,An,Instr.slice,a2,vt c3,Sem.run_pure]
     ·have e1:hb-l<=cap-l:=DO
      have e2:hb-l<=xk:=AF (Nat.sub_le _ _) (AF c2 k2);have e3:cap-l<=maxLen:=AF (Nat.sub_le _ _) k3;clear a2 d;refine .sl ⟨_,_,rfl,e1,e2,e3,λa1=>?_⟩ h2 λv0 b8=>?_
      ·grind[Addr.add_plain]
      ·obtain⟨g1,g2⟩:=h3 v0 b8;refine⟨g1,λhq=>?_⟩;rcases g2 hq with ⟨q1,q2,q3,q4⟩ | ⟨b,k',a',c8,q1,q2,q3,q4⟩
       ·simp_all
       ·cases q2;refine .inr ⟨b,k',_,_,q1,rfl,λd0=>?_,λa1=>?_⟩
        ·have c6:l=0:=by
          rcases B1 l with h | h
          ·exact h
          ·have:0<l*P.cellsOf e:=Nat.mul_pos h (B3 c3);omega
         subst c6;obtain⟨z1,z2⟩:=q3 DO;subst z1;refine⟨?_,by simpa using z2⟩
         by_cases a4:cap=0
         ·simp[a4]
         ·simp[a4,Addr.add_plain]
        grind[Addr.add_plain]
   ·cases h
  ·cases h
 ·rename_i s;split at h
  ·rename_i hb ht hh;split at h
   ·rename_i hc;obtain⟨c1,c2,c5⟩:=hc;cases h;have f:mx=none:=by cases mx with | none=>rfl | some _=>cases c5
    have a5:umx=none:=g.2 f;subst a5;cases hu;have d:wJ s.size mx=some s.size:=by rw[f];rfl
    have a2:=VU (P:=P) (n:=s.size) (cap:=s.size) (umx:=none) false hl hh d c1 c2 (Ag _) (by rw[f];simp) z a0 g;refine⟨_,?_,.sc _⟩;simp[Instr.sliceAt,run_underlying ht,Instr.slice,a2]
   ·cases h
  ·cases h
 ·cases h
open Go
def VV(P:Program)(t:TypeId)(x:PV):Option PV :=
 match P.underlying t with
 | some (.slice _) =>
  match x with
  | .lst n _=>some (.sc (.int .i64 n))
  | .nl _ _ n _=>some (.sc (.int .i64 n))
  | .sl _ _ _ _ n=>some (.sc (.int .i64 n))
  | .sc (.slice _ n _)=>some (.sc (.int .i64 n))
  | _=>none
 | some .string =>
  match x with
  | .sc (.string s)=>some (.sc (.int .i64 s.size))
  | _=>none
 | _=>none
def VW(op:UnOp)(x:PV):Option PV :=
 match x with
 | .sc (.bool b)=>match op with | .not=>some (.sc (.bool (!b))) | _=>none
 | .sc (.int k n)=>match op with | .neg=>some (.sc (.int k (k.wrap (0-n)))) | _=>none
 | _=>none
def VX(P:Program)(src dst:TypeId)(x:PV):Option PV :=
 match P.underlying src with
 | none=>none
 | some _ =>
  match x with
  | .sc (.int _ n)=>match P.underlying dst with | some (.int k)=>some (.sc (.int k (k.wrap n))) | _=>none
  | .sc (.string s)=>match P.underlying dst with | some .string=>some (.sc (.string s)) | _=>none
  | _=>none
def VY(P:Program)(t:TypeId)(x i:PV):Option PV :=
 match i with
 | .sc (.int _ n) =>
  match P.underlying t with
  | some (.array len e) =>
   match x with
   | .agg cs=>if (0<=n/\n<(len:Int))/\P.cellsOf e≠0/\(P.underlying e).isSome=true then Zs P e (cs.drop (n.toNat * P.cellsOf e)) else none
   | _=>none
  | some .string =>
   match x with
   | .sc (.string s)=>if 0<=n then (s[n.toNat]?).map λb=>.sc (.int .u8 b.toNat) else none
   | _=>none
  | _=>none
 | _=>none
def VZ(P:Program)(t:TypeId)(x:PV)(f:Nat):Option PV :=
 match P.underlying t with
 | some (.struct fs) =>
  match fs[f]? with
  | some fd=>if (P.underlying fd.type).isSome=true then (match x with | .agg cs=>Zs P fd.type (cs.drop fd.offset) | _=>none) else none
  | none=>none
 | _=>none
def ZbU(x:PV):Option PV :=
 match x with
 | .ptr _ _ _=>some x
 | .ip _=>some x
 | .fn (.func _) _ _=>some x
 | _=>none
def Xk(f:Int->Int->Int)(x y:PV):Option PV :=
 match x,y with
 | .sc (.int k a),.sc (.int _ b)=>some (.sc (.int k (f a b)))
 | _,_=>none
def jJ(x y:Int):Int:=if y<x then y else x
def jy(x y:Int):Int:=if x<y then y else x
def V1(P:Program)(F:Nat->PV)(c:Call):Option PV :=
 match c.callee with
 | .builtin .len=>match c.args.toList,c.argTypes.toList with | [x],[t]=>VV P t (ev F x) | _,_=>none
 | .builtin .min=>match c.args.toList with | [x,y]=>Xk jJ (ev F x) (ev F y) | _=>none
 | .builtin .max=>match c.args.toList with | [x,y]=>Xk jy (ev F x) (ev F y) | _=>none
 | _=>none
def Yj(P:Program):List Field->List PV->List PV->Option Bool
 | [],[],[]=>some true
 | f :: fs,.sc (.int k a) :: cs,.sc (.int k' b) :: ds =>
  match P.underlying f.type with
  | some (.int _)=>if k=k' then (Yj P fs cs ds).map (a == b && ·) else none
  | _=>none
 | f :: fs,.sc (.bool a) :: cs,.sc (.bool b) :: ds =>
  match P.underlying f.type with
  | some .bool=>(Yj P fs cs ds).map (a == b && ·)
  | _=>none
 | _,_,_=>none
def V2:Nat->List Field->Bool
 | _,[]=>true
 | i, f :: fs => f.name != "_" && f.offset == i && V2 (i + 1) fs
def WB(P:Program)(t:TypeId):Bool:=!P.stoodInHeld t && !P.eqGuardType P.depth t && V2 0 (P.fieldsOf t).toList
def V3(P:Program)(op:BinOp)(t:TypeId)(x y:PV):Option PV :=
 match x,y with
 | .agg cs,.agg ds =>
  match P.underlying t with
  | some (.struct fs) =>
   if WB P t=true then
    match Yj P fs.toList cs ds,op with
    | some b,.eql=>some (.sc (.bool b))
    | some b,.neq=>some (.sc (.bool (!b)))
    | _,_=>none
   else none
  | _=>none
 | _,_=>none
theorem ZeX{P:Program}{C:Ctx}{S:Store}{w:World}{CS DS:List PV}{xs z:Array Value}(hx:Rel C S w (.agg CS) (.agg xs))(hy:Rel C S w (.agg DS) (.agg z))(d:Nat):
  ∀(fs:List Field) (i:Nat) (b:Bool),V2 i fs=true->Yj P fs (CS.drop i) (DS.drop i)=some b->(Op.eqFields (d+1) xs z fs).run P w=.ok b w
 | [],i,b,_,h=>by
  generalize CS.drop i=cs at h;generalize DS.drop i=ds at h;cases cs with
  | nil =>
   cases ds<;>simp_all[Yj,Op.eqFields]
  | cons=>simp_all[Yj]
 | f :: fs,i,b,g,h=>by
  simp only[V2,Ar,bne_iff_ne,beq_iff_eq]at g;obtain⟨⟨hn,rfl⟩,g⟩:=g;have step:∀(p q:PV) (ps j:List PV),CS.drop f.offset=p :: ps->DS.drop f.offset=q :: j->CS.drop (f.offset+1)=ps/\DS.drop (f.offset+1)=j:=by
   intro p q ps j h1 h2;have e1:CS.drop (f.offset+1)=(CS.drop f.offset).drop 1:=by rw[List.drop_drop]
   have e2:DS.drop (f.offset+1)=(DS.drop f.offset).drop 1:=by rw[List.drop_drop]
   rw[e1,e2,h1,h2];exact⟨rfl,rfl⟩
  have x:∀(e:TypeDesc) (p q:PV) (ps j:List PV) (u v:Value) (c b':Bool),P.underlying f.type=some e->Xj (some e)=false->CS.drop f.offset=p :: ps->DS.drop f.offset=q :: j->(∀r,Rel C S w p r->r=u)->(∀r,Rel C S w q r->r=v) ->
    (Op.equalIn (d+1) f.type u v).run P w=.ok c w->Yj P fs ps j=some b'->b=(c && b')->(Op.eqFields (d+1) xs z (f :: fs)).run P w=.ok b w:=by
   intro e p q ps j u v c b' l a0 h1 h2 hu hv y m hb;cases hx with
   | agg lx ox rx =>
    cases hy with
    | agg ly oy ry =>
     obtain⟨r1,k1,k2⟩:=VR (P:=P) (w:=w) (t:=f.type) l lx ox rx (o:=f.offset) (p:=p) (by grind[Zs]);obtain⟨r2,k3,k4⟩:=VR (P:=P) (w:=w) (t:=f.type) l ly oy ry (o:=f.offset) (p:=q) (by grind[Zs]);cases hu r1 k2;cases hv r2 k4;obtain⟨g1,g2⟩:=step _ _ _ _ h1 h2;have ih:=ZeX (.agg lx ox rx) (.agg ly oy ry) d fs (f.offset+1) b' g (by rw[g1,g2];exact m);unfold Op.eqFields;rw[if_pos hn];simp only[Sem.run_bind,k1,k3,An,y];cases c
     ·simp[hb]
     ·simp[hb,ih]
  unfold Yj at h;split at h
  ·simp_all
  ·rename_i k a ps k' c j h1 h2 h3;cases h1;split at h
   ·rename_i k2 l;split at h
    ·rename_i hk;subst hk;obtain⟨b',n,rfl⟩:=Ap.1 h;exact x _ _ _ _ _ _ _ _ _ l rfl h2 h3 (λr s=>by cases s;rfl) (λr s=>by cases s;rfl) (run_equalIn_int w d f.type k k2 a c l) n rfl
    ·cases h
   ·cases h
  ·rename_i a ps c j h1 h2 h3;cases h1;split at h
   ·rename_i l;obtain⟨b',n,rfl⟩:=Ap.1 h;exact x _ _ _ _ _ _ _ _ _ l rfl h2 h3 (λr s=>by cases s;rfl) (λr s=>by cases s;rfl) (run_equalIn_bool' w d f.type a c l) n rfl
   ·cases h
  ·cases h
theorem ZkR{P:Program}{C:Ctx}{S:Store}{w:World}{op:BinOp}{t:TypeId}{x y:PV}{p:PV}{u v:Value}(X Y:Operand)(h:V3 P op t x y=some p)
  (g:Rel C S w x u) (hv:Rel C S w y v):∃r,(do eqGuard op t X Y u v;binOp op t u v:Sem Value).run P w=.ok r w/\Rel C S w p r:=by
 unfold V3 at h;split at h
 ·rename_i cs ds;split at h
  ·rename_i fs i;split at h
   ·rename_i a;unfold WB at a;simp only[Ar,Cm]at a;obtain⟨⟨h1,h2⟩,h3⟩:=a;have hf:P.fieldsOf t=fs:=by unfold Program.fieldsOf;rw[i]
    have c:P.underlying t=some (.struct (P.fieldsOf t)):=by rw[hf];exact i
    have d:=g;have e:=hv;cases g with
    | agg j k a3 =>
     cases hv with
     | agg b1 b2 b3 =>
      rename_i xs f;have key:∀b,Yj P fs.toList cs ds=some b->(Op.equalIn 10000 t (.agg xs) (.agg f)).run P w=.ok b w:=by
       intro b hb
       show (Op.equalIn (9999+1) _ _ _).run P w=_
       rw[run_equalIn_struct w 9999 t xs f c h1,hf]
       show (Op.eqFields (9998+1) xs f fs.toList).run P w=_
       rw[hf]at h3;exact ZeX d e 9998 fs.toList 0 b h3 (by simpa using hb)
      split at h
      ·rename_i b hb;cases h;exact⟨_,by simp_all[run_eqGuard_agg,run_eql_struct],.sc _⟩
      ·rename_i b hb;cases h;exact⟨_,by simp_all[run_eqGuard_agg,run_neq_struct],.sc _⟩
      ·cases h
   ·cases h
  ·cases h
 ·cases h
def vu(P:Program)(F:Nat->PV)(o:Oper):Option PV :=
 match o.op with
 | .move x=>some (ev F x)
 | .assign x=>some (ev F x)
 | .pick c a b=>match ev F c with | .sc (.bool t)=>some (bif t then ev F a else ev F b) | _=>none
 | .build t parts=>VS P t (parts.toList.map λx=>(x.1,ev F x.2))
 | .buildSlice t len parts =>
  match P.underlying t with
  | some (.slice e)=>(ZM P e len (parts.toList.map λx=>(x.1,ev F x.2))).map (.lst len)
  | _=>none
 | .load t x=>match ev F x with | .ip cs=>if (P.underlying t).isSome=true then Zs P t cs else none | _=>none
 | .nilCheck x=>ZbU (ev F x)
 | .binOp op t x y _ =>
  match VO P op t (ev F x) (ev F y) with
  | some p=>some p
  | none=>V3 P op t (ev F x) (ev F y)
 | .unOp op _ x=>VW op (ev F x)
 | .convert src dst x=>VX P src dst (ev F x)
 | .makeInterface t x=>match P.underlying t with | some (.interface _)=>none | some _=>some (.ifc t (ev F x)) | none=>none
 | .makeFunc fn first cap=>some (.fn fn (first.toList.map (ev F)) (cap.toList.map (ev F)))
 | .slice t x lo hi mx=>VT P t (ev F x) (lo.map (ev F)) (hi.map (ev F)) (mx.map (ev F))
 | .fieldAddr t x f=>VP P t (ev F x) f
 | .field t x f=>VZ P t (ev F x) f
 | .indexAddr t x i=>Jt P t (ev F x) (ev F i)
 | .index t x i=>VY P t (ev F x) (ev F i)
 | .extract t i=>match ev F t with | .tup ps=>ps[i]? | _=>none
 | .call c=>V1 P F c
 | _=>none
section
variable {P:Program} {C:Ctx} {S:Store} {w:World} {F:Nat->PV} {ρ:Operand->Value} {p:PV}
theorem ZkS{b:Bool}{x y:PV}{u v:Value}(h1:Rel C S w x u)(h2:Rel C S w y v):Rel C S w (bif b then x else y) (if b=true then u else v):=DW
theorem ZkT{t ty:TypeId}{x:PV}{u:Value}(h:VV P t x=some p)(d:Rel C S w x u):∃r,(Builtin.len_ #[t] ty #[u]).run P w=.ok r w/\Rel C S w p r:=by
 unfold VV at h;split at h
 ·rename_i e b;split at h
  ·cases h;cases d<;>exact⟨_,by simp[Builtin.len_,run_underlying b];rfl,.sc _⟩
  ·cases h;cases d<;>exact⟨_,by simp[Builtin.len_,run_underlying b];rfl,.sc _⟩
  ·cases h;cases d with | sl h1=>obtain⟨a,c,rfl,_⟩:=h1;exact⟨_,by simp[Builtin.len_,run_underlying b];rfl,.sc _⟩
  ·cases h;cases d;exact⟨_,by simp[Builtin.len_,run_underlying b];rfl,.sc _⟩
  ·cases h
 ·rename_i b;split at h
  ·cases h;cases d;exact⟨_,by simp[Builtin.len_,run_underlying b];rfl,.sc _⟩
  ·cases h
 ·cases h
theorem ZkU{op:UnOp}{x:PV}{u:Value}(h:VW op x=some p)(a:Rel C S w x u):∃r,(Op.unary op u).run P w=.ok r w/\Rel C S w p r:=by
 unfold VW at h;split at h
 ·cases a;split at h
  ·cases h;exact⟨_,by simp[Op.unary],.sc _⟩
  ·cases h
 ·cases a;split at h
  ·cases h;exact⟨_,by simp[Op.unary,Op.intArith],.sc _⟩
  ·cases h
 ·cases h
theorem ZkV{src dst:TypeId}{x:PV}{u:Value}(h:VX P src dst x=some p)(a:Rel C S w x u):∃r,(convert src dst u).run P w=.ok r w/\Rel C S w p r:=by
 unfold VX at h;split at h
 ·cases h
 ·rename_i d hs;split at h
  ·cases a;split at h
   ·rename_i k b;cases h;exact⟨_,by simp_all[convert,run_underlying,Conv.intToInt],.sc _⟩
   ·cases h
  ·cases a;split at h
   ·rename_i b;cases h;refine⟨_,?_,.sc _⟩
    simp_all[convert,run_underlying]
   ·cases h
  ·cases h
theorem ZkW{t:TypeId}{x i:PV}{u v:Value}(h:VY P t x i=some p)(a:Rel C S w x u)(hv:Rel C S w i v):∃r,(Instr.index t u v).run P w=.ok r w/\Rel C S w p r:=by
 unfold VY at h;split at h
 ·cases hv;rename_i k n;split at h
  ·rename_i len e f;split at h
   ·split at h
    ·rename_i hc;obtain⟨c1,c2,c3⟩:=hc;cases g:P.underlying e with
     | none=>simp_all
     | some d =>
      cases a with
      | agg hl h1 h2 =>
       obtain⟨r,j,c⟩:=VR g hl h1 h2 h
       simp_all[Instr.index,asIntOf,run_underlying,vt]
    ·cases h
   ·cases h
  ·rename_i f;split at h
   ·cases a;split at h
    ·rename_i hn;obtain⟨b,hb,rfl⟩:=Ap.1 h;exact⟨_,by simp_all[Instr.index,asIntOf,run_underlying],.sc _⟩
    ·cases h
   ·cases h
  ·cases h
 ·cases h
theorem ZkX{t:TypeId}{x:PV}{f:Nat}{u:Value}(h:VZ P t x f=some p)(b:Rel C S w x u):∃r,(Instr.field t u f).run P w=.ok r w/\Rel C S w p r:=by
 unfold VZ at h;split at h
 ·rename_i fs i;split at h
  ·rename_i c hf;split at h
   ·rename_i e;split at h
    ·cases g:P.underlying c.type with
     | none=>simp_all
     | some d =>
      cases b with
      | agg hl h1 h2 =>
       obtain⟨r,j,a⟩:=VR g hl h1 h2 h
       simp_all[Instr.field,run_underlying,asAgg]
    ·cases h
   ·cases h
  ·cases h
 ·cases h
theorem WC{l:List Operand}(a:∀x,Rel C S w (ev F x) (ρ x)):(l.map (ev F)).length=(l.toArray.map ρ).size/\∀(i:Nat) (c:PV) (v:Value),(l.map (ev F))[i]?=some c->(l.toArray.map ρ)[i]?=some v->Rel C S w c v:=DW
theorem ZbV{x:Option Operand}(a:∀x,Rel C S w (ev F x) (ρ x)):(∀p,x.map (ev F)=some p->∃v,x.map ρ=some v/\Rel C S w p v)/\(x.map (ev F)=none->x.map ρ=none):=by cases x<;>simp_all
theorem ZeY{x y:PV}{u v:Value}(a:Rel C S w x u)(hv:Rel C S w y v):
  (Xk jJ x y=some p->∃r,(Builtin.min2 u v).run P w=.ok r w/\Rel C S w p r)/\(Xk jy x y=some p->∃r,(Builtin.max2 u v).run P w=.ok r w/\Rel C S w p r):=by
 constructor <;>
 ·intro h;unfold Xk at h;split at h
  ·cases h;cases a;cases hv;exact⟨_,rfl,.sc _⟩
  ·cases h
theorem ZkY{o:Oper}(h:vu P F o=some p)(hS:Sim C S w)(k:∀x,Rel C S w (ev F x) (ρ x)):
  ∃v w',(execOp ρ o).run P w=.ok (.value v) w'/\Rel C S w' p v/\Sim C S w'/\Step C S w C S w':=by
 have j:(∃v,(execOp ρ o).run P w=.ok (.value v) w/\Rel C S w p v)->∃v w',(execOp ρ o).run P w=.ok (.value v) w'/\Rel C S w' p v/\Sim C S w'/\Step C S w C S w' :=
  λ⟨v,h1,h2⟩=>⟨v,w,h1,h2,hS,.refl _ _ _⟩
 unfold vu at h;unfold execOp at j ⊢;cases ho:o.op<;>simp only[ho]at h j ⊢<;>try (cases h;done)
 case move x=>cases h;simp_all
 case assign x=>cases h;simp_all
 case pick c a b =>
  split at h
  ·rename_i t hc;cases h;have:=k c;rw[hc]at this;generalize ρ c=v at this j ⊢;cases this
   simp_all[asBool,ZkS]
  ·cases h
 case build t parts =>
  obtain⟨r,m,g⟩:=ZkO (ev F) ρ k h;refine j ⟨r,?_,g⟩;have e:(parts.map λ(x:Nat × Operand)=>(x.1,ρ x.2))=(parts.toList.map λx=>(x.1,ρ x.2)).toArray:=by apply BK.1;simp
  simp_all
 case buildSlice t len parts =>
  split at h
  ·rename_i e ht;obtain⟨cs,hl,rfl⟩:=Ap.1 h;obtain⟨vs,m,g,a0⟩:=ZbS ht (ev F) ρ k hl;have eq:(parts.map λ(x:Nat × Operand)=>(x.1,ρ x.2))=(parts.toList.map λx=>(x.1,ρ x.2)).toArray:=by apply BK.1;simp
   obtain⟨g1,g2,g3⟩:=hS.alloc (.cells vs e);refine⟨_,_,by simp only[Sem.run_bind];rw[eq,m];rfl,?_,g1,g2⟩;have n:len<=xk:=by
    unfold ZM at hl;split at hl
    ·cases hl
    ·split at hl
     ·rename_i hc;obtain⟨_,_,c3,c4⟩:=hc;have:len*1<=len*P.cellsOf e:=Cb _ (B3 c3);unfold xk;omega
     ·cases hl
   obtain⟨r1,r2,r3⟩:=g.mono g2;exact .lst1 (Ag _) n (YY _ _) g3 (λ_=>by omega) (λi v _ hv=>r2 i v (by simpa using hv)) (λi q v hq hv=>r3 i q v hq (by simpa using hv))
  ·cases h
 case load t x =>
  split at h
  ·rename_i cs hx;split at h
   ·rename_i a1;cases hd:P.underlying t with
    | none=>simp_all
    | some d =>
     have:=k x;rw[hx]at this;generalize ρ x=v at this j ⊢;cases this with
     | ip hb hM hs h1 m =>
      obtain⟨r,a2,g⟩:=ZbP hd hb hs h1 m h
      simp_all[Instr.loadAt,Instr.sureAddr]
   ·cases h
  ·cases h
 case nilCheck x =>
  have hx:=k x;unfold ZbU at h;generalize ρ x=v at hx j ⊢;split at h
  ·rename_i s;cases h;rw[s]at hx j ⊢;cases hx with
   | ptr h1 h2 h3=>obtain⟨a,rfl⟩:=h1;exact j ⟨_,rfl,.ptr ⟨_,rfl⟩ h2 h3⟩
  ·rename_i s;cases h;rw[s]at hx j ⊢;cases hx with
   | ip a b c d e=>exact j ⟨_,rfl,.ip a b c d e⟩
  ·rename_i s;cases h;rw[s]at hx j ⊢;cases hx with
   | fn a b c d=>exact j ⟨_,rfl,.fn a b c d⟩
  ·cases h
 case binOp op t x y ty =>
  split at h
  ·rename_i p' hp;cases h;obtain⟨r,m,g⟩:=ZkJ (w:=w) x y hp (k x) (k y);refine j ⟨r,?_,g⟩;rw[Sem.run_bind,m];rfl
  ·obtain⟨r,m,g⟩:=ZkR (w:=w) x y h (k x) (k y);refine j ⟨r,?_,g⟩;rw[Sem.run_bind,m];rfl
 case unOp op t x =>
  obtain⟨r,m,g⟩:=ZkU (P:=P) h (k x)
  simp_all
 case convert src dst x =>
  obtain⟨r,m,g⟩:=ZkV h (k x)
  simp_all
 case makeInterface t x =>
  split at h
  ·cases h
  ·rename_i d a3 hd;cases h;refine j ⟨_,?_,.ifc (k x)⟩
   simp_all[Instr.makeInterface,run_underlying]
  ·cases h
 case makeFunc fn first cap =>
  cases h;have h1:=WC (l:=first.toList) k;have h2:=WC (l:=cap.toList) k;simp only[Array.toArray_toList]at h1 h2;exact j ⟨_,rfl,.fn h1.1 h2.1 h1.2 h2.2⟩
 case slice t x lo hi mx =>
  obtain⟨r,m,g⟩:=ZkQ h (k x) (ZbV k) (ZbV k) (ZbV k)
  simp_all
 case fieldAddr t x f =>
  obtain⟨r,m,g⟩:=ZkL h (k x)
  simp_all
 case field t x f =>
  obtain⟨r,m,g⟩:=ZkX h (k x)
  simp_all
 case indexAddr t x i =>
  obtain⟨r,m,g⟩:=ZkK h (k x) (k i)
  simp_all
 case index t x i =>
  obtain⟨r,m,g⟩:=ZkW h (k x) (k i)
  simp_all
 case extract t i =>
  split at h
  ·rename_i ps hx;have:=k t;rw[hx]at this;generalize ρ t=v at this j ⊢;cases this with
   | tup hl m =>
    rename_i vs;obtain⟨hi,_⟩:=Ad.1 h;have u:vs[i]?=some (vs[i]' DO):=DP
    exact j ⟨_,by simp[Instr.extract,u],m i p _ h u⟩
  ·cases h
 case call c =>
  unfold V1 at h;split at h
  ·rename_i hc;split at h
   ·rename_i x t hx ht;have z:c.args=#[x]:=by apply BK.1;simpa using hx
    have et:c.argTypes=#[t]:=by apply BK.1;simpa using ht
    obtain⟨r,m,g⟩:=ZkT (ty:=o.type) h (k x);refine j ⟨r,?_,g⟩
    grind[resolve,invoke,builtin,Sem.run_bind,Sem.run_pure,Result.andThen_ok]
   ·cases h
  ·rename_i hc;split at h
   ·rename_i x y hx;have z:c.args=#[x,y]:=by apply BK.1;simpa using hx
    obtain⟨r,m,g⟩:=(ZeY (P:=P) (k x) (k y)).1 h;refine j ⟨r,?_,g⟩;simp only[resolve,hc,invoke,builtin,z,Sem.run_bind,Sem.run_pure,An,Dt,AD,Bp,Builtin.min_,List.foldlM,m]
   ·cases h
  ·rename_i hc;split at h
   ·rename_i x y hx;have z:c.args=#[x,y]:=by apply BK.1;simpa using hx
    obtain⟨r,m,g⟩:=(ZeY (P:=P) (k x) (k y)).2 h;refine j ⟨r,?_,g⟩;simp only[resolve,hc,invoke,builtin,z,Sem.run_bind,Sem.run_pure,An,Dt,AD,Bp,Builtin.max_,List.foldlM,m]
   ·cases h
  ·cases h
end
open Go
structure Rd where
 round:Option Nat
 V:Ctx->Store->World->Prop
 keep:∀{C C':Ctx} {S S':Store} {w w':World},Step C S w C' S' w'->V C S w->V C' S' w'
def jB:Rd:=⟨none,λ_ _ _=>True,λ_ _=>trivial⟩
def Fe(r:Rd):Fence:={ Fence.wide with round:=r.round }
structure St (r:Rd) (C:Ctx) (S:Store) (w:World) (N:Nat) (F:Nat->PV) (a:Act):Prop where
 sim:Sim C S w
 size:a.tmps.size=N
 fr:∀i,Rel C S w (F i) (a.tmps.getD i undef)
 v:r.V C S w
theorem St.ev{r:Rd}{C:Ctx}{S:Store}{w:World}{N:Nat}{F:Nat->PV}{a:Act}(h:St r C S w N F a)(x:Operand):Rel C S w (ev F x) (a.eval x):=by
 cases x with
 | tmp t=>exact h.fr t
 | const v=>exact VL v
 | global g=>exact .sc _
 | func f=>exact .fn rfl rfl DP DP
theorem ZkZ(a:Act)(d:Nat)(v:Value)(b:d<a.tmps.size)(i:Nat):(a.put (some d) v).tmps.getD i undef=if i=d then v else a.tmps.getD i undef:=by
 simp only[Act.put,A6]
 grind
theorem St.put{r:Rd}{C C':Ctx}{S S':Store}{w w':World}{N:Nat}{F:Nat->PV}{a:Act}(h:St r C S w N F a)(st:Step C S w C' S' w')(hs:Sim C' S' w'){d:Option Nat}(c:∀x,d=some x->x<N){p:PV}{v:Value}
  (e:Rel C' S' w' p v):St r C' S' w' N (yg F d p) (a.put d v):=by
 cases d with
 | none=>exact⟨hs,h.size,λi=>(h.fr i).mono st,r.keep st h.v⟩
 | some d =>
  have b:d<a.tmps.size:=by rw[h.size];exact c d rfl
  refine⟨hs,by simp[Act.put,h.size],λi=>?_,r.keep st h.v⟩;rw[ZkZ a d v b];simp only[yg,wS];split
  ·exact e
  ·exact(h.fr i).mono st
def gd(ops:Array Oper)(F:Nat->PV)(o:Oper):Option Bool :=
 match o.guard with
 | none=>some true
 | some (j,want) =>
  match (ops[j]?).bind (·.dst) with
  | none=>some false
  | some d=>match F d with
   | .sc v=>match v with
    | .bool b=>some (b == want)
    | _=>some false
   | _=>none
theorem QG{r:Rd}{ops:Array Oper}{C:Ctx}{S:Store}{w:World}{N:Nat}{F:Nat->PV}{a:Act}{o:Oper}{b:Bool}(h:St r C S w N F a)(c:gd ops F o=some b):Region.wanted o (yielded ops a.tmps)=b:=by
 unfold gd at c;unfold Region.wanted;split at c
 ·simp_all
 ·rename_i j f hn;rw[hn];simp only;split at c
  ·grind[yielded]
  ·rename_i d i;have g:=h.fr d;split at c
   ·rename_i v hv;rw[hv]at g;generalize e:a.tmps.getD d undef=u at g;cases g;rw[A6]at e;split at c
    ·rename_i b';cases c;cases hx:a.tmps[d]? with
     | none=>rw[hx]at e;cases e
     | some y =>
      rw[hx]at e;simp only[Option.getD_some]at e;subst e;simp only[yielded,i,Du,hx];cases b'<;>cases f<;>rfl
    grind[yielded]
   ·cases c
def ZN(P:Program)(t:TypeId)(S:Store)(x:PV):Option PV :=
 match x with
 | .ptr o ver off =>
  match S o with
  | .cells v _ cs=>if v=ver/\(P.underlying t).isSome=true then Zs P t (cs.drop off) else none
  | _=>none
 | .ip cs=>if (P.underlying t).isSome=true then Zs P t cs else none
 | _=>none
theorem ZeZ{P:Program}{C:Ctx}{S:Store}{w:World}{t:TypeId}{x p:PV}{u:Value}(h:ZN P t S x=some p)(y:Sim C S w)(j:Rel C S w x u):∃r,(Instr.loadAt t u).run P w=.ok r w/\Rel C S w p r:=by
 unfold ZN at h;split at h
 ·rename_i o ver off;split at h
  ·rename_i v e cs hs;split at h
   ·rename_i hc;obtain⟨rfl,f⟩:=hc;cases g:P.underlying t with
    | none=>simp_all
    | some d =>
     cases j with
     | ptr h1 h2 h3 =>
      obtain⟨b,k,hl,rfl⟩:=(h3 v (by rw[hs];rfl)).2 rfl;rcases y.cells o v e cs hs with ⟨hn,_⟩ | ⟨b',k',c,g1,z,g3,g4,g5,g6⟩
      ·simp_all
      ·rw[g1]at hl;cases hl;obtain⟨l,m,n⟩:=WA (k:=off) (o:=0) (c:=c) (cs:=cs) (λ_=>by omega) (λi v hi hv=>g5 i v hi (by simpa using hv)) (λi q v hq hv=>g6 i q v hq (by simpa using hv));rw[AS]at l m n;obtain⟨r,s,a⟩:=ZbP (P:=P) (b:=b) g z l m n h
       simp_all[Instr.loadAt,Instr.sureAddr]
   ·cases h
  ·cases h
 ·split at h
  ·rename_i f;cases g:P.underlying t with
   | none=>simp_all
   | some d =>
    cases j with
    | ip hb hM hs h1 s =>
     obtain⟨r,a0,a⟩:=ZbP g hb hs h1 s h
     simp_all[Instr.loadAt,Instr.sureAddr]
  ·cases h
 ·cases h
def yk(cs:List PV)(off:Nat)(ds:List PV):List PV:=cs.take off++ds++cs.drop (off+ds.length)
def Xl(P:Program)(t:TypeId)(S:Store)(x y:PV):Option Store :=
 match x with
 | .ptr o ver off =>
  match S o with
  | .cells v e cs=>if v=ver/\y.cells.length=P.cellsOf t/\P.cellsOf t≠0/\off+y.cells.length<=cs.length/\y.fit=true then some (S.set o (.cells v e (yk cs off y.cells))) else none
  | _=>none
 | _=>none
theorem Zk0{P:Program}{C:Ctx}{S S':Store}{w:World}{t:TypeId}{x y:PV}{u v:Value}(h:Xl P t S x y=some S')(hS:Sim C S w)(hu:Rel C S w x u)(hv:Rel C S w y v):
  ∃w' C',(Instr.storeAt t u v).run P w=.ok () w'/\Sim C' S' w'/\Step C S w C' S' w':=by
 unfold Xl at h;split at h
 ·rename_i o ver off;split at h
  ·rename_i vv e cs hs;split at h
   ·rename_i hc;obtain⟨rfl,c1,c2,c3,c4⟩:=hc;cases h;cases hu with
    | ptr h1 h2 h3 =>
     obtain⟨b,k,hl,rfl⟩:=(h3 vv (by rw[hs];rfl)).2 rfl;rcases hS.cells o vv e cs hs with ⟨hn,_⟩ | ⟨b',k',c,g1,g2,g3,g4,g5,g6⟩
     ·simp_all
     ·rw[g1]at hl;cases hl;obtain⟨r1,r2,r3⟩:=hv.cells' c4;have n:∀z∈v.cells.toList,z.oneCell'=true:=by
       intro z a;obtain⟨i,hi⟩:=Ca a;exact r2 i z (by rw[<-Array.getElem?_toList];exact hi)
      have q:off+0+v.cells.toList.length<=c.size:=by simp only[Array.length_toList];omega
      have d:=run_storeCells_at P b off e v.cells.toList 0 c w g2 q n;have a3:v.cells.toList.length=y.cells.length:=by simp[r1]
      simp only[By]at d;generalize r:w.setRow b (c.toList.take off++v.cells.toList++c.toList.drop (off+v.cells.toList.length)).toArray=w' at d;have g:w'.heap[b]?=some (.cells (c.toList.take off++v.cells.toList++c.toList.drop (off+v.cells.toList.length)).toArray e (0,0)):=by
       rw[<-r];exact setRow_heap w b c _ e _ g2
      have a0:w.grownBy w' (some b)/\w.drawn<=w'.drawn:=by
       rw[<-r];exact⟨⟨rfl,rfl,rfl,by simp[World.setRow],λj hj a1=>setRow_other w b j _ (λe=>a1 (by rw[e]))⟩,Ag _⟩
      have m:(c.toList.take off++v.cells.toList++c.toList.drop (off+v.cells.toList.length)).toArray.size=k:=by
       simp;omega
      obtain⟨t1,t2⟩:=hS.turn (l:=C.loc o) (ver':=vv) (cs':=yk cs off y.cells) hs (Ag _) (λ_=>rfl) (by rw[g1];exact a0)
       (.inr ⟨b,k,_,g1,.inr (by rw[g1];rfl),g,m,by simp[yk];omega,λi z hi a=>by
         rw[AG]at a
         by_cases s:i<off
         ·rw[List.append_assoc,As DT,AL s]at a;exact g5 i z DO (by rw[<-Array.getElem?_toList];exact a)
         ·by_cases q2:i<off+v.cells.toList.length
          ·rw[List.append_assoc,Ak DT,Ax,Bf DT,As DO]at a;exact r2 _ z (by rw[<-Array.getElem?_toList];exact a)
          ·rw[Ak (by simp at q2 ⊢;omega),Am,Ax,Bf DT,AP]at a;have:off+v.cells.toList.length+(i-(off+v.cells.toList.length))=i:=DO
           rw[this]at a;have a2:i<cs.length:=by simp[yk]at hi;omega
           exact g5 i z a2 (by rw[<-Array.getElem?_toList];exact a),
        λi p z f a=>by
         rw[AG]at a;unfold yk at f
         by_cases s:i<off
         ·rw[List.append_assoc,As DT,AL s]at a;rw[List.append_assoc,As DT,AL s]at f;exact g6 i p z f (by rw[<-Array.getElem?_toList];exact a)
         ·by_cases q2:i<off+v.cells.toList.length
          ·rw[List.append_assoc,Ak DT,Ax,Bf DT,As DO]at a;rw[List.append_assoc,Ak DT,Ax,Bf DO,As DO]at f;exact r3 _ p z f (by rw[<-Array.getElem?_toList];exact a)
          ·rw[Ak (by simp at q2 ⊢;omega),Am,Ax,Bf DT,AP]at a;rw[Ak (by simp at q2 ⊢;omega),Am,Ax,Bf DO,AP]at f;have e1:off+v.cells.toList.length+(i-(off+v.cells.toList.length))=i:=DO
           have e2:off+y.cells.length+(i-(off+y.cells.length))=i:=DO
           rw[e1]at a;rw[e2]at f;exact g6 i p z f (by rw[<-Array.getElem?_toList];exact a)⟩)
      grind[Instr.storeAt,Instr.sureAddr,Sem.run_bind,Result.andThen_ok,storeVar,vt]
   ·cases h
  ·cases h
 ·cases h
def jp(P:Program)(F:Nat->PV)(S:Store)(o:Oper):Option (PV × Store) :=
 match o.op with
 | .load t x=>(ZN P t S (ev F x)).map λp=>(p,S)
 | .store t x y=>(Xl P t S (ev F x) (ev F y)).map λS'=>(.sc undef,S')
 | _=>none
def PO0(P:Program)(r:Rd)(n:Nat)(o:Oper)(F:Nat->PV)(S:Store)(K:PV->Store->Prop):Prop :=
 ∀(C:Ctx) (w:World) (a:Act) (N:Nat),St r C S w N F a->∀(next:Act->World->Prop) (Q:Exit->Act->World->Prop),
  (∀v w' C' S' p,K p S'->Rel C' S' w' p v->Sim C' S' w'->Step C S w C' S' w'->next (a.put o.dst v) w')->o.wpIn (Fe r) n P a w next Q
def PO(P:Program)(r:Rd)(n:Nat)(o:Oper)(F:Nat->PV)(S:Store)(K:PV->Store->Prop):Prop :=
 ∀G:Nat->PV,(∀x∈o.op.operands,ev G x=ev F x)->PO0 P r n o G S K
theorem Zk2{P:Program}{F G:Nat->PV}{o:Oper}(h:∀x∈o.op.operands,ev G x=ev F x):vu P G o=vu P F o:=by
 unfold vu;cases ho:o.op<;>simp only[ho]at h ⊢
 case move x=>simp_all[Op.operands]
 case assign x=>simp_all[Op.operands]
 case pick c a b=>simp_all[Op.operands]
 case build t parts =>
  grind[List.map_congr_left,Op.operands]
 case buildSlice t len parts =>
  grind[List.map_congr_left,Op.operands]
 case load t x=>simp_all[Op.operands]
 case nilCheck x=>simp_all[Op.operands]
 case binOp op t x y ty=>simp_all[Op.operands]
 case unOp op t x=>simp_all[Op.operands]
 case convert src dst x=>simp_all[Op.operands]
 case makeInterface t x=>simp_all[Op.operands]
 case makeFunc fn first cap =>
  simp_all[Op.operands]
 case slice t x lo hi mx =>
  have e:∀(y:Option Operand),(∀z,y=some z->ev G z=ev F z)->y.map (ev G)=y.map (ev F):=by
   intro y d;cases y with
   | none=>rfl
   | some z=>simp[d z rfl]
  simp_all[Op.operands]
 case fieldAddr t x f=>simp_all[Op.operands]
 case field t x f=>simp_all[Op.operands]
 case indexAddr t x i=>simp_all[Op.operands]
 case index t x i=>simp_all[Op.operands]
 case extract t i=>simp_all[Op.operands]
 case call c =>
  have g:∀x∈c.args.toList,ev G x=ev F x:=λx hx=>h x (by simp only[Op.operands,Call.operands,Array.mem_append];exact .inr (B9.1 hx))
  grind[V1]
theorem Zk3{P:Program}{F G:Nat->PV}{S:Store}{o:Oper}(h:∀x∈o.op.operands,ev G x=ev F x):jp P G S o=jp P F S o:=by grind[jp,Op.operands]
theorem qg{P:Program}{r:Rd}{n:Nat}{o:Oper}{a:Act}{w w':World}{x:Next}{next:Act->World->Prop}{Q:Exit->Act->World->Prop}(b:∀c,o.op≠.defer c)
  (d:(execOp a.eval o).run P w=.ok x w') (h:o.uponIn (Fe r) n P a next Q (.ok x w')):o.wpIn (Fe r) n P a w next Q:=by
 refine⟨λ_ _=>trivial,?_⟩
 simp_all[Oper.semAt_eq]
theorem V4{P:Program}{r:Rd}{n:Nat}{o:Oper}{F:Nat->PV}{S:Store}{K:PV->Store->Prop}{p:PV}(h:vu P F o=some p)(f:K p S):PO P r n o F S K:=by
 intro G g;rw[<-Zk2 g]at h;intro C w a N st next Q b;obtain⟨v,w',d,e,hs,c⟩:=ZkY h st.sim st.ev;refine qg ?_ d (b v w' C S p f e hs c)
 grind[vu]
theorem Xm{P:Program}{r:Rd}{n:Nat}{o:Oper}{F:Nat->PV}{S S':Store}{K:PV->Store->Prop}{p:PV}(h:jp P F S o=some (p,S'))(k:K p S'):PO P r n o F S K:=by
 intro G l;rw[<-Zk3 l]at h;intro C w a N st next Q b;have e:∀c,o.op≠.defer c:=by intro c hc;simp[jp,hc]at h
 unfold jp at h;split at h
 ·rename_i t x ho;obtain⟨q,i,j⟩:=Ap.1 h;cases j;obtain⟨v,f,g⟩:=ZeZ i st.sim (st.ev x);refine qg (x:=.value v) (w':=w) e ?_ (b v w C S p k g st.sim (.refl _ _ _))
  simp_all[execOp]
 ·rename_i t x y ho;obtain⟨q,i,j⟩:=Ap.1 h;cases j;obtain⟨w',C',f,hs,d⟩:=Zk0 i st.sim (st.ev x) (st.ev y);refine qg (x:=.skip) (w':=w') e ?_ (b undef w' C' S' _ k (.sc _) hs d)
  simp_all[execOp]
 ·cases h
def V5(H:List Nat)(o:Oper):Bool :=
 match o.dst with
 | some d=>H.contains d
 | none=>false
def uU(P:Program)(r:Rd)(n:Nat)(H:List Nat)(ops:Array Oper):List Oper->(Nat->PV)->Store->((Nat->PV)->Store->Prop)->Prop
 | [],F,S,K=>K F S
 | o :: os,F,S,K =>
  match gd ops F o with
  | none=>False
  | some false=>uU P r n H ops os (yg F o.dst (.sc undef)) S K
  | some true =>
   if V5 H o=true then PO P r n o F S (λp S'=>uU P r n H ops os (yg F o.dst p) S' K) else
   match vu P F o with
   | some p=>uU P r n H ops os (yg F o.dst p) S K
   | none =>
    match jp P F S o with
    | some (p,S')=>uU P r n H ops os (yg F o.dst p) S' K
    | none=>PO P r n o F S (λp S'=>uU P r n H ops os (yg F o.dst p) S' K)
def Marks(n0:Nat)(C:Ctx)(S:Store)(w:World):List Deferred->Prop
 | []=>True
 | d :: ds=>(∃D,n0<=D/\d={ target:=.collected D,args:=#[] }/\w.heap[D]?=some (.deferred (some []))/\¬C.M S D/\∀d'∈ds,d'≠d)/\Marks n0 C S w ds
theorem Marks.mono{a:Nat}{C C':Ctx}{S S':Store}{w w':World}(st:Step C S w C' S' w'):∀{ds:List Deferred},Marks a C S w ds->Marks a C' S' w' ds
 | [],_=>trivial
 | _ :: _,⟨⟨D,h1,h2,h3,b,c⟩,h⟩=>by
  obtain⟨k1,d⟩:=st.blocks D (qN h3) b;exact⟨⟨D,h1,h2,k1.trans h3,d,c⟩,Marks.mono st h⟩
theorem Marks.mem{b:Nat}{C:Ctx}{S:Store}{w:World}:∀{ds:List Deferred},Marks b C S w ds->∀d∈ds,∃D,b<=D/\D<w.heap.size/\d={ target:=.collected D,args:=#[] }
 | _ :: ds,⟨⟨D,h1,h2,h3,_,_⟩,h⟩,d,a=>by
  rcases Au.1 a with rfl | a
  ·exact⟨D,h1,qN h3,h2⟩
  ·exact Marks.mem h d a
theorem Marks.app{a n1:Nat}{C:Ctx}{S:Store}{w:World}{ms:List Deferred}(hn:a<=n1)(hm:Marks a C S w ms)(b:∀d∈ms,∃D,D<n1/\d={ target:=.collected D,args:=#[] }):
  ∀{ds:List Deferred},Marks n1 C S w ds->Marks a C S w (ds++ms)
 | [],_=>hm
 | d :: ds,⟨⟨D,h1,h2,h3,e,f⟩,h⟩=>by
  refine⟨⟨D,AF hn h1,h2,h3,e,λg c=>?_⟩,Marks.app hn hm b h⟩;rcases AB.1 c with q | q<;>grind
def Defs(n0:Nat)(ds:List Deferred)(C:Ctx)(S:Store)(w:World)(ds':List Deferred):Prop:=∃ms,ds'=ms++ds/\Marks n0 C S w ms
theorem Defs.of_eq{a:Nat}{ds ds':List Deferred}{C:Ctx}{S:Store}{w:World}(h:ds'=ds):Defs a ds C S w ds':=⟨[],h,trivial⟩
theorem Defs.trans{c:Nat}{ds a ds2:List Deferred}{C1 C2:Ctx}{S1 S2:Store}{b w2:World}(h1:Defs c ds C1 S1 b a)(st:Step C1 S1 b C2 S2 w2)(hn:c<=b.heap.size)(h2:Defs b.heap.size a C2 S2 w2 ds2):Defs c ds C2 S2 w2 ds2:=by
 obtain⟨f,rfl,i⟩:=h1;obtain⟨g,rfl,j⟩:=h2;refine⟨g++f,by simp,Marks.app hn (i.mono st) (λd k=>?_) j⟩;obtain⟨D,_,h,e⟩:=i.mem d k
 simp_all
def PW(P:Program)(r:Rd)(n N:Nat)(c:Code)(Q:Exit->(Nat->PV)->Store->Prop)(F:Nat->PV)(S:Store):Prop :=
 ∀(C:Ctx) (w:World) (a:Act),St r C S w N F a->c.wpIn (Fe r) n P (λe a' w'=>∃F' S' C',Q e F' S'/\St r C' S' w' N F' a'/\Defs w.heap.size a.defers C' S' w' a'.defers/\Step C S w C' S' w') a w
section rules
variable {P:Program} {r:Rd} {n N:Nat} {Q:Exit->(Nat->PV)->Store->Prop} {F:Nat->PV} {S:Store}
theorem ZbW(k m:Nat)(h:k<m):(List.range m).drop k=k :: (List.range m).drop (k+1):=by simp_all[AJ]
theorem WD(a:Act)(d:Option Nat)(v:Value):(a.put d v).defers=a.defers:=by cases d<;>rfl
theorem Zk4{H:List Nat}{ops:Array Oper}{Q':Exit->Act->World->Prop}(s:∀o∈ops,∀d,o.dst=some d->d<N){K:(Nat->PV)->Store->Prop}{C0:Ctx}{S0:Store}{w0:World}{ds:List Deferred}
  (t:∀F' S' C' w' g,K F' S'->St r C' S' w' N F' g->g.defers=ds->Step C0 S0 w0 C' S' w'->Q' .normal g w') :
  ∀(m k:Nat) (F:Nat->PV) (S:Store) (C:Ctx) (w:World) (a:Act),ops.size-k=m->uU P r n H ops (ops.toList.drop k) F S K->St r C S w N F a->a.defers=ds->Step C0 S0 w0 C S w ->
   wpOpsIn (Fe r) n P ops Q' ((List.range ops.size).drop k) a w:=by
 intro m
 induction m with
 | zero =>
  intro k F S C w a hm h st i step;have u:(List.range ops.size).drop k=[]:=BU DT;have e2:ops.toList.drop k=[]:=BU DT;rw[u];rw[e2]at h;exact t F S C w a h st i step
 | succ m l =>
  intro k F S C w a hm h st i step;have q:k<ops.size:=DO
  rw[ZbW k _ q];have e2:ops.toList.drop k=ops[k] :: ops.toList.drop (k+1):=by
   rw[AJ DO];simp
  rw[e2]at h;have e:ops[k]?=some ops[k]:=DP
  have c:∀x,ops[k].dst=some x->x<N:=s _ (Dn q);rw[wpOpsIn_cons];unfold wpOpIn;rw[e];dsimp only;simp only[uU]at h;split at h
  ·exact h.elim
  ·rename_i j;rw[QG st j];simp only[AT,if_false];exact⟨λ_ _=>trivial,l (k+1) _ _ C w _ DO h (st.put (.refl _ _ _) st.sim c (.sc _)) (by simp_all[WD]) step⟩
  ·rename_i j;rw[QG st j];simp only[if_true];have z:PO P r n ops[k] F S (λp S'=>uU P r n H ops (ops.toList.drop (k+1)) (yg F ops[k].dst p) S' K)->Oper.wpIn (Fe r) n P ops[k] a w (wpOpsIn (Fe r) n P ops Q' ((List.range ops.size).drop (k+1))) Q':=λhpo =>
    hpo F (λ_ _=>rfl) C w a N st _ _ (λv w' C' S' p y f hs b=>l (k+1) _ _ C' w' _ DO y (st.put b hs c f) (by rw[WD];exact i) (step.trans b))
   grind[V4,Xm]
def vw(N:Nat)(ops:Array Oper):Bool:=ops.toList.all λo=>match o.dst with | some d=>Nat.blt d N | none=>true
theorem V6{ops:Array Oper}(h:vw N ops=true):∀o∈ops,∀d,o.dst=some d->d<N:=by grind[vw,Nat.blt_eq]
theorem Ze0{id:Nat}{ops:Array Oper}(H:List Nat)(f:vw N ops=true)(h:uU P r n H ops ops.toList F S (Q .normal)):PW P r n N (.region id ops false) Q F S:=by
 intro C w a st;refine wpIn_region ?_;have:=Zk4 (H:=H) (Q':=λe c w'=>∃F' S' C',Q e F' S'/\St r C' S' w' N F' c/\Defs w.heap.size a.defers C' S' w' c.defers/\Step C S w C' S' w') (V6 f)
  (λF' S' C' w' c g d i b=>⟨F',S',C',g,d,.of_eq i,b⟩) ops.size 0 F S C w a rfl (K:=Q .normal) (by simpa using h) st rfl (.refl _ _ _)
 simpa using this
def YZ(K:(Nat->PV)->Store->Prop)(Q:Exit->(Nat->PV)->Store->Prop):Exit->(Nat->PV)->Store->Prop
 | .normal,F,S=>K F S
 | e,F,S=>Q e F S
theorem WE{c:Code}{Q':Exit->(Nat->PV)->Store->Prop}(h:PW P r n N c Q F S)(b:∀e F S,Q e F S->Q' e F S):PW P r n N c Q' F S:=by
 intro C w a st;exact wpIn_mono (h C w a st) λe d w' ⟨F',S',C',h1,h2⟩=>⟨F',S',C',b _ _ _ h1,h2⟩
theorem ze{x y:Code}(h:PW P r n N x (YZ (PW P r n N y Q) Q) F S):PW P r n N (.seq x y) Q F S:=by
 intro C w a st;refine wpIn_seq (wpIn_mono (h C w a st) ?_);rintro e i w' ⟨F',S',C',d,c,f,b⟩;cases e with
 | normal =>
  refine wpIn_mono (d C' w' i c) ?_;rintro e j w'' ⟨F2,S2,C2,h1,h2,h3,g⟩;exact⟨F2,S2,C2,h1,h2,f.trans g b.size h3,b.trans g⟩
 | _=>exact⟨F',S',C',d,c,f,b⟩
theorem zk(h:Q .normal F S):PW P r n N .skip Q F S:=λC _ _ st=>wpIn_skip ⟨F,S,C,h,st,.of_eq rfl,.refl _ _ _⟩
theorem zC{id:Nat}(h:Q (.exit id) F S):PW P r n N (.exit id) Q F S:=λC _ _ st=>wpIn_exit ⟨F,S,C,h,st,.of_eq rfl,.refl _ _ _⟩
theorem zj(h:Q .ret F S):PW P r n N .ret Q F S:=λC _ _ st=>wpIn_ret ⟨F,S,C,h,st,.of_eq rfl,.refl _ _ _⟩
theorem zA{c:Operand}{x y:Code}{t:Bool}(hc:ev F c=.sc (.bool t))(h1:t=true->PW P r n N x Q F S)(h2:t=false->PW P r n N y Q F S):PW P r n N (.cond c x y) Q F S:=by
 intro C w a st;have:=st.ev c;rw[hc]at this;generalize hv:a.eval c=v at this;cases this;exact wpIn_cond_split hv (λe=>h1 e C w a st) (λe=>h2 e C w a st)
def jW(id:Nat)(Q:Exit->(Nat->PV)->Store->Prop):Exit->(Nat->PV)->Store->Prop
 | .exit id',F,S=>if id'=id then Q .normal F S else Q (.exit id') F S
 | e,F,S=>Q e F S
theorem zn{id:Nat}{c:Code}(h:PW P r n N c (jW id Q) F S):PW P r n N (.block id c) Q F S:=by
 intro C w a st;refine wpIn_block (wpIn_mono (h C w a st) ?_);rintro e b w' ⟨F',S',C',d,rest⟩;cases e<;>grind[jW,Exit.inBlock]
theorem ZbX{c:Code}(I:(Nat->PV)->Store->Nat->Prop)(m0:Nat)(h0:I F S m0)(round:∀m F S,I F S m->PW P r n N c (YZ (λF' S'=>∃y,I F' S' y/\y<m) Q) F S):PW P r n N (.loop c) Q F S:=by
 intro C w a st b k cs z hb hr;have key:∀j F1 S1 C1 s u,I F1 S1 j->St r C1 S1 s N F1 u->Defs w.heap.size a.defers C1 S1 s u.defers->Step C S w C1 S1 s ->
   ∃e v w',(∃F' S' C',Q e F' S'/\St r C' S' w' N F' v/\Defs w.heap.size a.defers C' S' w' v.defers/\Step C S w C' S' w')/\ArrivesIn (Machine.fenced P (Fe r)) P (lone (b.atR u (.code c :: .inLoop c :: k)) cs s) b k cs e v w':=by
  intro j
  induction j using Nat.strongRecOn with
  | _ j ih =>
   intro F1 S1 C1 s u hI a0 h d;obtain⟨e,t,w2,⟨F2,S2,C2,p,i,o,f⟩,g⟩:=round j F1 S1 hI C1 s u a0 b (.inLoop c :: k) cs z hb hr;cases e with
   | normal =>
    obtain⟨y,a4,a5⟩:=p;obtain⟨e3,a3,w3,a6,q⟩:=ih y a5 F2 S2 C2 w2 t a4 i (h.trans f d.size o) (d.trans f);exact⟨e3,a3,w3,a6,.of_steps (StepsIn.trans g (.one (fenced_calm hb hr rfl) stepR_inLoop)) q⟩
   | exit id=>exact⟨_,t,w2,⟨F2,S2,C2,p,i,h.trans f d.size o,d.trans f⟩,.pass (x:=.inLoop c) rfl (λ_ _=>.inl DP) g⟩
   | goto l=>exact⟨_,t,w2,⟨F2,S2,C2,p,i,h.trans f d.size o,d.trans f⟩,.pass (x:=.inLoop c) rfl (λ_ _=>.inl DP) g⟩
   | ret=>exact⟨_,t,w2,⟨F2,S2,C2,p,i,h.trans f d.size o,d.trans f⟩,.pass (x:=.inLoop c) rfl (λ_ _=>.inl DP) g⟩
   | panic ch=>exact⟨_,t,w2,⟨F2,S2,C2,p,i,h.trans f d.size o,d.trans f⟩,.pass (x:=.inLoop c) rfl (λ_ _=>.inl DP) g⟩
   | outgrown=>exact⟨_,t,w2,⟨F2,S2,C2,p,i,h.trans f d.size o,d.trans f⟩,.pass (x:=.inLoop c) rfl (λ_ _=>.inl DP) g⟩
 obtain⟨e,v,w',p,g⟩:=key m0 F S C w a h0 st (.of_eq rfl) (.refl _ _ _);exact⟨e,v,w',p,.of_steps (.one (fenced_calm hb hr rfl) stepR_loop) g⟩
end rules
open Go
def vT(o:Oper):List Nat:=(o.after.toList.filter (Region.binds .any)).map (·.on)
def uV(ops:Array Oper)(o:Oper):List Nat :=
 (o.op.operands.toList.filterMap fun | .tmp t=>some t | _=>none) ++
 (match o.guard with
  | none=>[]
  | some (j,_)=>match (ops[j]?).bind (·.dst) with | some d=>[d] | none=>[])
def V7:List Oper->List (List Nat)->List (List Nat)
 | [],acc=>acc
 | o :: os,acc=>V7 os (acc++[((vT o).flatMap λe=>e :: acc.getD e []).eraseDups])
def Jv(ops:Array Oper):List (List Nat):=V7 ops.toList []
def Ze1(ops:Array Oper)(A:List (List Nat))(i j:Nat):Bool :=
 match ops[i]?,ops[j]? with
 | some oi,some oj =>
  match oj.dst with
  | none=>true
  | some d =>
   if i=j then !(uV ops oi).contains d
   else decide (oi.dst≠some d) && (!(uV ops oi).contains d || (if j<i then (A.getD i []).contains j else (A.getD j []).contains i))
 | _,_=>true
def Jw(ops:Array Oper):Bool :=
 let A:=Jv ops
 (List.range ops.size).all λi =>
  (match ops[i]? with | some o=>(vT o).all (·<i) | none=>true) &&
  (List.range ops.size).all λj=>Ze1 ops A i j
inductive Row where
 | done
 | pure (i:Nat) (r:Row)
 | alt (i:Nat) (r more:Row)
 | stop
def Row.pures:List Nat->Row->Row
 | [],r=>r
 | i :: is,r=>.pure i (Row.pures is r)
def Row.chain:Row->Bool
 | .alt _ _ _=>true
 | .stop=>true
 | _=>false
def Y0(ops:Array Oper)(pre:List Nat)(i:Nat):Bool :=
 match ops[i]? with
 | some o=>(vT o).all (pre.contains ·) && !pre.contains i
 | none=>false
def wA(ops:Array Oper):List Nat->List Nat->Row->Bool
 | pre,_,.done=>(List.range ops.size).all (pre.contains ·)
 | pre,_,.pure i r=>Y0 ops pre i && wA ops (i :: pre) [] r
 | pre,acc,.alt i r more=>Y0 ops pre i && wA ops (i :: pre) [] r && wA ops pre (i :: acc) more && more.chain
 | pre,acc,.stop=>!acc.isEmpty && (List.range ops.size).all λj=>pre.contains j || acc.contains j || !Y0 ops pre j
def Jx(ops:Array Oper)(L:Nat->Prop):Prop:=∀j o,L j->ops[j]?=some o->∀e∈vT o,L e
theorem Ze2(L:Nat->Prop)(a:List Oper)(t:∀j o,L j->a[j]?=some o->∀e∈vT o,L e):
  ∀(l:List Oper) (pre:List Oper) (b:List (List Nat)),a=pre++l->b.length=pre.length ->
   (∀(j:Nat) (o:List Nat),b[j]?=some o->∀p,a[j]?=some p->(∀e∈vT p,L e)->∀k∈o,L k) ->
   ∀(j:Nat) (o:List Nat),(V7 l b)[j]?=some o->∀p,a[j]?=some p->(∀e∈vT p,L e)->∀k∈o,L k
 | [],_,_,_,_,h=>h
 | x :: xs,pre,b,d,hl,h=>by
  simp only[V7];refine Ze2 L a t xs (pre++[x]) _ (by rw[d];simp) (by simp[hl]) ?_;intro j o f p r u k c
  by_cases v:j<b.length
  ·grind
  ·rw[Ak DO]at f;have g:j=b.length:=by
    rcases Bh (j-b.length) 1 with q | q
    ·omega
    ·grind
   subst g;simp only[Bz,Bd,Option.some.injEq]at f;subst f;have i:p=x:=by
    rw[d,Ak DO,hl,Bz]at r;simpa using r.symm
   subst i;rw[List.mem_eraseDups,BL]at c;obtain⟨e,m,c⟩:=c;rw[Au]at c;rcases c with rfl | c
   ·exact u k m
   ·cases s:b[e]? with
    | none=>simp_all
    | some w =>
     rw[Aa,s]at c;have n:∃q,a[e]?=some q:=by
      have:e<b.length:=(Ad.1 s).1;exact⟨_,Ac (by rw[d];simp;omega)⟩
     obtain⟨q,y⟩:=n
     grind
theorem ZbY{ops:Array Oper}{L:Nat->Prop}(a:Jx ops L){j:Nat}{o:Oper}(ho:ops[j]?=some o)(b:∀e∈vT o,L e){k:Nat}(c:k∈(Jv ops).getD j []):L k:=by
 have:=Ze2 L ops.toList (λj o h1 h2=>a j o h1 (by rw[<-Array.getElem?_toList];exact h2)) ops.toList [] [] DP rfl (λj o h=>by cases h)
 grind[Jv]
section
variable {P:Program} {r:Rd} {n N:Nat} {Q:Exit->(Nat->PV)->Store->Prop} {F:Nat->PV} {S:Store}
def yR(ids:Option (List Nat))(S0 S:Store):Prop :=
 match ids with
 | none=>S=S0
 | some l=>∀x∈l,S x=S0 x
def Jy(P:Program)(ids:Option (List Nat))(S0:Store)(F:Nat->PV)(o:Oper):Option PV :=
 match o.op with
 | .load t x =>
  match ev F x with
  | .ptr id ver off =>
   match ids with
   | none=>ZN P t S0 (.ptr id ver off)
   | some l=>if id∈l then ZN P t S0 (.ptr id ver off) else none
  | _=>none
 | _=>none
theorem Zk5{ids:Option (List Nat)}{S0:Store}{o:Oper}{p:PV}(h:Jy P ids S0 F o=some p)(S':Store)(a:yR ids S0 S'):PO P r n o F S' (λq S''=>q=p/\S''=S'):=by
 unfold Jy at h;split at h
 ·rename_i t x ho;split at h
  ·rename_i id ver off hx;have hl:ZN P t S' (.ptr id ver off)=some p:=by
    cases ids with
    | none=>cases a;exact h
    | some l =>
     simp only at h;split at h
     ·rename_i hm;have:=a id hm
      simp_all[ZN]
     ·cases h
   exact Xm (p:=p) (S':=S') (by simp_all[jp]) ⟨rfl,rfl⟩
  ·cases h
 ·cases h
def PX(P:Program)(r:Rd)(n:Nat)(ops:Array Oper)(ids:Option (List Nat))(S0:Store):Row->(Nat->PV)->Store->((Nat->PV)->Store->Prop)->Prop
 | .done,F,S,K=>K F S
 | .stop,_,_,_=>True
 | .pure i is,F,S,K =>
  match ops[i]? with
  | none=>False
  | some o =>
   match gd ops F o with
   | none=>False
   | some false=>PX P r n ops ids S0 is (yg F o.dst (.sc undef)) S K
   | some true =>
    match vu P F o with
    | some p=>PX P r n ops ids S0 is (yg F o.dst p) S K
    | none =>
     match Jy P ids S0 F o with
     | some p=>PX P r n ops ids S0 is (yg F o.dst p) S K
     | none=>∃p,(∀S',yR ids S0 S'->PO P r n o F S' (λq S''=>q=p/\S''=S'))/\PX P r n ops ids S0 is (yg F o.dst p) S K
 | .alt i is more,F,S,K =>
  (match ops[i]? with
  | none=>False
  | some o =>
   match gd ops F o with
   | none=>False
   | some false=>PX P r n ops ids S0 is (yg F o.dst (.sc undef)) S K
   | some true =>
    match jp P F S o with
    | some (p,S')=>yR ids S0 S'/\PX P r n ops ids S0 is (yg F o.dst p) S' K
    | none=>PO P r n o F S (λp S'=>yR ids S0 S'/\PX P r n ops ids S0 is (yg F o.dst p) S' K)) /\
  PX P r n ops ids S0 more F S K
def WF(ops:Array Oper)(val:Nat->PV)(F0:Nat->PV)(j:Nat)(o:Oper)(G:Nat->PV):Prop :=
 ∀t∈uV ops o,(∀j' o',ops[j']?=some o'->o'.dst=some t->j'<j->G t=val j')/\((∀j' o',ops[j']?=some o'->o'.dst=some t->¬j'<j)->G t=F0 t)
def WG(ops:Array Oper)(val:Nat->PV)(F0:Nat->PV)(L:Nat->Prop)(G:Nat->PV):Prop :=
 ∀t,(∀j o,L j->ops[j]?=some o->o.dst=some t->G t=val j)/\((∀j o,L j->ops[j]?=some o->o.dst≠some t)->G t=F0 t)
structure RegOk (ops:Array Oper):Prop where
 edge:∀(i:Nat) (o:Oper),ops[i]?=some o->∀e∈vT o,e<i
 dst:∀(i j:Nat) (oi oj:Oper) (d:Nat),ops[i]?=some oi->ops[j]?=some oj->i≠j->oi.dst=some d->oj.dst≠some d
 self:∀(i:Nat) (o:Oper) (d:Nat),ops[i]?=some o->o.dst=some d->d ∉ uV ops o
 before:∀(i j:Nat) (oi oj:Oper) (d:Nat),ops[i]?=some oi->ops[j]?=some oj->oj.dst=some d->d∈uV ops oi->j<i->j∈(Jv ops).getD i []
 behind:∀(i j:Nat) (oi oj:Oper) (d:Nat),ops[i]?=some oi->ops[j]?=some oj->oj.dst=some d->d∈uV ops oi->i<j->i∈(Jv ops).getD j []
theorem Zk6{ops:Array Oper}(h:Jw ops=true):RegOk ops:=by
 unfold Jw at h;simp only[Aw,AK,Ar]at h;have lt:∀{i o},ops[i]?=some o->i<ops.size:=λh=>(Bb.1 h).1
 have a:∀{i j oi oj d},ops[i]?=some oi->ops[j]?=some oj->oj.dst=some d ->
   (if i=j then !(uV ops oi).contains d else decide (oi.dst≠some d) && (!(uV ops oi).contains d || (if j<i then ((Jv ops).getD i []).contains j else ((Jv ops).getD j []).contains i)))=true:=by
  intro i j oi oj d hi b c;have:=(h i (lt hi)).2 j (lt b);unfold Ze1 at this;rw[hi,b]at this;simp only[c]at this;exact this
 refine⟨?_,?_,?_,?_,?_⟩
 ·grind
 ·grind
 ·grind
 ·intro i j oi oj d hi b c e f;have:=a hi b c;rw[if_neg DO]at this
  grind
 ·intro i j oi oj d hi b c e f;have:=a hi b c;rw[if_neg DO]at this
  grind
theorem V8{ops:Array Oper}(R:RegOk ops){val F0 G:Nat->PV}{L:Nat->Prop}(c:Jx ops L)(h:WG ops val F0 L G){i:Nat}{o:Oper}(hi:ops[i]?=some o)(hn:¬L i)
  (l:∀e∈vT o,L e):WF ops val F0 i o G:=by
 intro t k;refine⟨λj o' a b d=>?_,λf=>?_⟩
 ·exact(h t).1 j o' (ZbY c hi l (R.before i j o o' t hi a b k d)) a b
 ·refine(h t).2 λj o' g a b=>?_
  have h1:=f j o' a b;rcases Bh i j with q | q
  ·exact hn (ZbY c a (c j o' g a) (R.behind i j o o' t hi a b k q))
  grind
theorem Ze3{ops:Array Oper}{val F0 G G':Nat->PV}{i:Nat}{o:Oper}(h:WF ops val F0 i o G)(h':WF ops val F0 i o G'):∀t∈uV ops o,G t=G' t:=by
 intro t b
 by_cases hx:∃j o',ops[j]?=some o'/\o'.dst=some t/\j<i
 ·obtain⟨j,o',h1,h2,h3⟩:=hx;rw[(h t b).1 j o' h1 h2 h3,(h' t b).1 j o' h1 h2 h3]
 ·have a:∀j' o',ops[j']?=some o'->o'.dst=some t->¬j'<i:=λj' o' h1 h2 h3=>hx ⟨j',o',h1,h2,h3⟩
  rw[(h t b).2 a,(h' t b).2 a]
theorem Ze4{ops:Array Oper}{o:Oper}{G G':Nat->PV}(h:∀t∈uV ops o,G t=G' t):∀x∈o.op.operands,ev G x=ev G' x:=by
 intro x hx;cases x with
 | tmp t =>
  refine h t ?_;unfold uV;rw[AB];left;rw[Cg];exact⟨.tmp t,B9.2 hx,rfl⟩
 | _=>rfl
theorem V9{ops:Array Oper}{o:Oper}{G G':Nat->PV}(h:∀t∈uV ops o,G t=G' t):gd ops G o=gd ops G' o:=by grind[gd,uV]
def ZbZ(P:Program)(r:Rd)(n:Nat)(ops:Array Oper)(T:Store->Prop)(val F0:Nat->PV)(j:Nat):Prop :=
 ∃o,ops[j]?=some o/\∀G,WF ops val F0 j o G->(gd ops G o=some false/\val j=.sc undef)\/(gd ops G o=some true/\∀S',T S'->PO P r n o G S' (λq S''=>q=val j/\S''=S'))
theorem Zk7{o:Oper}{F G:Nat->PV}{S:Store}{K:PV->Store->Prop}(h:PO P r n o F S K)(b:∀x∈o.op.operands,ev G x=ev F x):PO P r n o G S K :=
 λG' a=>h G' (λx hx=>(a x hx).trans (b x hx))
theorem Zaa{ops:Array Oper}(R:RegOk ops){val F0 G:Nat->PV}{L:Nat->Prop}(h:WG ops val F0 L G){i:Nat}{o:Oper}(hi:ops[i]?=some o){p:PV}{val':Nat->PV}(k:val' i=p)(hv:∀j,L j->val' j=val j):
  WG ops val' F0 (λj=>j=i\/L j) (yg G o.dst p):=by
 intro t
 by_cases f:o.dst=some t
 ·rw[f];simp only[yg,wS,if_pos];refine⟨λj oj a ho b=>?_,λc=>absurd f (c i o (.inl rfl) hi)⟩;rcases a with rfl | a
  ·exact k.symm
  ·by_cases g:j=i
   ·simp_all
   ·exact absurd b (R.dst i j o oj t hi ho (λe=>g e.symm) f)
 ·have e:yg G o.dst p t=G t:=by
   cases l:o.dst with
   | none=>rfl
   | some d=>simp only[yg,wS];grind
  rw[e];refine⟨λj oj a ho b=>?_,λc=>(h t).2 λj oj a ho=>c j oj (.inr a) ho⟩;rcases a with rfl | a
  ·simp_all
  ·rw[hv j a];exact(h t).1 j oj a ho b
theorem Ze5{ops:Array Oper}(R:RegOk ops){T:Store->Prop}{val val' F0:Nat->PV}{L:Nat->Prop}(b:Jx ops L)(hv:∀j,L j->val' j=val j){j:Nat}(c:L j)(h:ZbZ P r n ops T val F0 j):ZbZ P r n ops T val' F0 j:=by
 obtain⟨o,ho,h⟩:=h;refine⟨o,ho,λG d=>?_⟩;rw[hv j c];refine h G λt a=>⟨λj' o' h1 h2 h3=>?_,(d t a).2⟩
 have hl:L j':=ZbY b ho (b j o c ho) (R.before j j' o o' t ho h1 h2 a h3);rw[<-hv j' hl];exact(d t a).1 j' o' h1 h2 h3
structure Mid (P:Program) (r:Rd) (n:Nat) (ops:Array Oper) (ids:Option (List Nat)) (S0:Store) (F0:Nat->PV) (K:(Nat->PV)->Store->Prop) (E:Nat->Prop) (G:Nat->PV) (S:Store) (val:Nat->PV) (pre:List Nat) (row:Row) (Fp:Nat->PV):Prop where
 closedE:Jx ops E
 closedP:Jx ops (·∈pre)
 frmE:WG ops val F0 E G
 frmP:WG ops val F0 (·∈pre) Fp
 sub:∀j,E j->j∈pre
 evid:∀j,j∈pre->¬E j->ZbZ P r n ops (yR ids S0) val F0 j
 px:PX P r n ops ids S0 row Fp S K
 row:wA ops pre [] row=true
 t:yR ids S0 S
theorem Zab{ops:Array Oper}{pre:List Nat}{i:Nat}(h:Y0 ops pre i=true):∃o,ops[i]?=some o/\(∀e∈vT o,e∈pre)/\i ∉ pre:=by grind[Y0]
theorem Ze6{ops:Array Oper}(R:RegOk ops){ids:Option (List Nat)}{S0:Store}{F0:Nat->PV}{K:(Nat->PV)->Store->Prop}{E:Nat->Prop}{G Fp:Nat->PV}{val:Nat->PV}{pre:List Nat}{rest:Row}{i:Nat}{o:Oper}
  (h:Mid P r n ops ids S0 F0 K E G S val pre (.pure i rest) Fp) (ho:ops[i]?=some o) {p:PV} (hx:PX P r n ops ids S0 rest (yg Fp o.dst p) S K)
  (m:(gd ops Fp o=some false/\p=.sc undef)\/(gd ops Fp o=some true/\∀S',yR ids S0 S'->PO P r n o Fp S' (λq S''=>q=p/\S''=S'))) :
  Mid P r n ops ids S0 F0 K E G S (λj=>if j=i then p else val j) (i :: pre) rest (yg Fp o.dst p):=by
 have b:=h.row;simp only[wA,Ar]at b;obtain⟨o',k,d,f⟩:=Zab b.1;rw[ho]at k;cases k;have s:∀j,E j->j≠i:=λj a e=>f (e ▸ h.sub j a)
 have l:Jx ops (·∈i :: pre):=by
  intro j oj a g e z;rw[Au]at a ⊢;rcases a with rfl | a
  ·simp_all
  ·exact .inr (h.closedP j oj a g e z)
 have c:∀j,j∈pre->(λj=>if j=i then p else val j) j=val j:=λj a=>if_neg (λ(e:j=i)=>f (e ▸ a))
 refine⟨h.closedE,l,?_,?_,λj a=>Cy _ (h.sub j a),?_,hx,b.2,h.t⟩
 ·intro t;refine⟨λj oj a g hd=>?_,(h.frmE t).2⟩;simp only[if_neg (s j a)];exact(h.frmE t).1 j oj a g hd
 ·have:=Zaa (val':=λj=>if j=i then p else val j) R h.frmP ho (p:=p) DP c
  simp_all
 ·intro j a u;rw[Au]at a
  by_cases v:j=i
  ·subst v;refine⟨o,ho,λG' w=>?_⟩;have s1:WF ops (λj'=>if j'=j then p else val j') F0 j o Fp:=by
    have:=V8 R h.closedP h.frmP ho f d;intro t y;refine⟨λj' o' h1 h2 h3=>?_,(this t y).2⟩;simp only[if_neg (Nat.ne_of_lt h3)];exact(this t y).1 j' o' h1 h2 h3
   have eq:=Ze3 w s1;simp only[if_pos];rcases m with ⟨e1,e2⟩ | ⟨e1,e2⟩
   ·simp_all[V9]
   ·exact .inr ⟨by simp_all[V9],λS' x=>Zk7 (e2 S' x) (Ze4 eq)⟩
  ·rcases a with a | a
   ·omega
   ·exact Ze5 R h.closedP c a (h.evid j a u)
theorem Zk8{ops:Array Oper}{ids:Option (List Nat)}{S0:Store}{i:Nat}{a:Row}{K:(Nat->PV)->Store->Prop}{o:Oper}(ho:ops[i]?=some o)(h:PX P r n ops ids S0 (.pure i a) F S K):
  (gd ops F o=some false/\PX P r n ops ids S0 a (yg F o.dst (.sc undef)) S K) \/
  (gd ops F o=some true/\∃p,(∀S',yR ids S0 S'->PO P r n o F S' (λq S''=>q=p/\S''=S'))/\PX P r n ops ids S0 a (yg F o.dst p) S K):=by grind[PX,V4,Zk5]
theorem Zk9{ops:Array Oper}{ids:Option (List Nat)}{S0:Store}{K:(Nat->PV)->Store->Prop}{pre:List Nat}{i:Nat}{o:Oper}(ho:ops[i]?=some o)(k:Y0 ops pre i=true):
  ∀(row:Row) (a:List Nat),i ∉ a->row.chain=true->wA ops pre a row=true->PX P r n ops ids S0 row F S K ->
   ∃rest,wA ops (i :: pre) [] rest=true /\
    ((gd ops F o=some false/\PX P r n ops ids S0 rest (yg F o.dst (.sc undef)) S K)\/(gd ops F o=some true/\PO P r n o F S (λp S'=>yR ids S0 S'/\PX P r n ops ids S0 rest (yg F o.dst p) S' K))):=by
 intro row
 induction row with
 | done=>intro a _ h;cases h
 | pure j r _=>intro a _ h;cases h
 | stop =>
  grind[wA,Zab]
 | alt j rest more e f =>
  intro a d _ b c;simp only[wA,Ar]at b;simp only[PX]at c
  by_cases g:i=j<;>grind[Xm]
theorem Ze7{ops:Array Oper}{ids:Option (List Nat)}{S0:Store}{F0:Nat->PV}{K:(Nat->PV)->Store->Prop}{E:Nat->Prop}{G Fp:Nat->PV}{val:Nat->PV}{pre:List Nat}{row:Row}
  (h:Mid P r n ops ids S0 F0 K E G S val pre row Fp) (f:∀i,i<ops.size->E i):K G S:=by
 have c:∀i,i<ops.size->i∈pre:=λi hi=>h.sub i (f i hi)
 have a:∀i,Y0 ops pre i=true->False:=by
  intro i hi;obtain⟨o,ho,_,d⟩:=Zab hi;exact d (c i (Bb.1 ho).1)
 have l:K Fp S:=by
  have b:=h.row;have e:=h.px;cases row with
  | done=>exact e
  | pure i k=>simp only[wA,Ar]at b;exact(a i b.1).elim
  | alt i k m=>simp only[wA,Ar]at b;exact(a i b.1.1.1).elim
  | stop=>simp[wA]at b
 have:G=Fp:=by
  funext t
  by_cases hx:∃(j:Nat) (o:Oper),ops[j]?=some o/\o.dst=some t
  ·obtain⟨j,o,h1,h2⟩:=hx;have g:=f j (Bb.1 h1).1;rw[(h.frmE t).1 j o g h1 h2,(h.frmP t).1 j o (h.sub j g) h1 h2]
  ·rw[(h.frmE t).2 λj o _ h1 h2=>hx ⟨j,o,h1,h2⟩,(h.frmP t).2 λj o _ h1 h2=>hx ⟨j,o,h1,h2⟩]
 simp_all
theorem Zla{ops:Array Oper}{Q':Exit->Act->World->Prop}(hN:∀o∈ops,∀d,o.dst=some d->d<N)(R:RegOk ops){ids:Option (List Nat)}{Sb:Store}{F0:Nat->PV}{K:(Nat->PV)->Store->Prop}
  {C0:Ctx} {S0:Store} {w0:World} {ds:List Deferred}
  (hQ:∀F' S' C' w' a',K F' S'->St r C' S' w' N F' a'->a'.defers=ds->Step C0 S0 w0 C' S' w'->Q' .normal a' w') :
  ∀(g:Nat) (listed:Array Bool) (U:List Nat) (G:Nat->PV) (S:Store) (C:Ctx) (w:World) (a:Act) (val:Nat->PV) (pre:List Nat) (row:Row) (Fp:Nat->PV),
   listed.size=ops.size->U.length=g->(∀i,i<ops.size->listed.getD i false=false->i∈U) ->
   Mid P r n ops ids Sb F0 K (λj=>listed.getD j false=true) G S val pre row Fp ->
   St r C S w N G a->a.defers=ds->Step C0 S0 w0 C S w->wpAnyIn (Fe r) n P .any ops Q' g listed a w:=by
 intro g
 induction g with
 | zero =>
  intro listed U G S C w a val pre row Fp c7 hU a2 b st hd step;have e0:U=[]:=Av hU;have a0:∀i,i<ops.size->listed.getD i false=true:=by
   intro i hi;cases hb:listed.getD i false with
   | false=>have:=a2 i hi hb;rw[e0]at this;cases this
   | true=>rfl
  refine⟨?_,hQ G S C w a (Ze7 b a0) st hd step⟩;rw[List.eq_nil_iff_forall_not_mem]
  grind[mem_ready]
 | succ g ih =>
  intro listed U G S C w a val pre row Fp c7 hU a2 b st hd step;refine⟨λhr=>?_,λi hi=>?_⟩
  ·have a0:∀i,i<ops.size->listed.getD i false=true:=by
    intro i
    induction i using Nat.strongRecOn with
    | _ i e3 =>
     intro hi;cases hb:listed.getD i false with
     | true=>rfl
     | false =>
      have ho:ops[i]?=some (ops[i]'hi):=DP
      have:i∈Region.ready .any ops listed:=by
       refine mem_ready.2 ⟨?_,ops[i]'hi,ho,λe he e4=>?_⟩
       ·rw[A6]at hb ⊢;rw[AY DO]at hb ⊢;simpa using hb
       ·have a4:=R.edge i _ ho e.on (by unfold vT;rw[Al];exact⟨e,by rw[Bn];exact⟨B9.2 he,e4⟩,rfl⟩);exact e3 e.on a4 DO
      rw[hr]at this;cases this
   grind[Ze7]
  ·obtain⟨h1,o,ho,a9⟩:=mem_ready.1 hi;have a4:i<ops.size:=(Bb.1 ho).1;have a5:¬(listed.getD i false=true):=by
    rw[A6]at h1 ⊢;rw[AY DO]at h1 ⊢;simp only[Option.getD_some]at h1 ⊢;rw[h1];simp
   have u:∀e∈vT o,listed.getD e false=true:=by
    intro e he;unfold vT at he;rw[Al]at he;obtain⟨x,hx,rfl⟩:=he;rw[Bn]at hx;exact a9 x (B9.1 hx.1) hx.2
   have d3:∀x,o.dst=some x->x<N:=by
    have:o∈ops:=by
     obtain⟨h,rfl⟩:=Bb.1 ho;exact Dn h
    exact hN o this
   have e5:i∈U:=a2 i a4 (by simpa using a5);have a6:∀j,(listed.setIfInBounds i true).getD j false=true<->j=i\/listed.getD j false=true:=by
    intro j;rw[A6,A6,Db]
    by_cases c8:i=j
    ·subst c8;simp[c7,a4]
    ·rw[if_neg c8];constructor
     ·exact .inr
     ·rintro(rfl | h)
      ·exact absurd rfl c8
      ·exact h
   have d0:(λj=>(listed.setIfInBounds i true).getD j false=true)=(λj=>j=i\/listed.getD j false=true):=funext λj=>propext (a6 j)
   have c6:Jx ops (λj=>j=i\/listed.getD j false=true):=by
    intro j oj c f e he;rcases c with rfl | c
    ·rw[ho]at f;cases f;exact .inr (u e he)
    ·exact .inr (b.closedE j oj c f e he)
   -- what follows,whichever way operation i has been carried out
   have a3:∀(val':Nat->PV) (a7:List Nat) (a8:Row) (Fp':Nat->PV) (p:PV) (S':Store) (C':Ctx) (w':World) (v:Value),
     Mid P r n ops ids Sb F0 K (λj=>j=i\/listed.getD j false=true) (yg G o.dst p) S' val' a7 a8 Fp'->Rel C' S' w' p v->Sim C' S' w'->Step C S w C' S' w' ->
     wpAnyIn (Fe r) n P .any ops Q' g (listed.setIfInBounds i true) (a.put o.dst v) w':=by
    intro val' a7 a8 Fp' p S' C' w' v d1 a1 hs q;refine ih _ (U.erase i) (yg G o.dst p) S' C' w' _ val' a7 a8 Fp' (by simp[c7]) (by rw[Do e5,hU];rfl) ?_ (by rw[d0];exact d1) (st.put q hs d3 a1) (by rw[WD];exact hd) (step.trans q);intro j c b7;have e6:j≠i:=by
     intro e;have:=(a6 j).2 (.inl e);rw[this]at b7;cases b7
    have d4:listed.getD j false=false:=by
     cases hb:listed.getD j false with
     | false=>rfl
     | true=>have:=(a6 j).2 (.inr hb);rw[this]at b7;cases b7
    exact(List.mem_erase_of_ne e6).2 (a2 j c d4)
   -- operation i has been looked at ahead
   have y:∀(pre:List Nat) (row:Row) (val:Nat->PV) (Fp:Nat->PV),i∈pre->Mid P r n ops ids Sb F0 K (λj=>listed.getD j false=true) G S val pre row Fp ->
     wpOpIn (Fe r) n P ops Q' i (wpAnyIn (Fe r) n P .any ops Q' g (listed.setIfInBounds i true)) a w:=by
    intro pre row val Fp k b;obtain⟨o',d5,e7⟩:=b.evid i k a5;rw[ho]at d5;cases d5;have d6:=V8 R b.closedE b.frmE ho a5 u;unfold wpOpIn;rw[ho];dsimp only;have l:∀p,val i=p->Mid P r n ops ids Sb F0 K (λj=>j=i\/listed.getD j false=true) (yg G o.dst p) S val pre row Fp:=λp hp =>
     ⟨c6,b.closedP,Zaa R b.frmE ho hp (λ_ _=>rfl),b.frmP,λj c=>c.elim (λe=>e ▸ k) (b.sub j),λj c hn=>b.evid j c (λh=>hn (.inr h)),b.px,b.row,b.t⟩
    rcases e7 G d6 with ⟨e1,e2⟩ | ⟨e1,e2⟩
    ·rw[QG st e1];exact⟨λ_ _=>trivial,a3 val pre row Fp _ S C w _ (l _ e2) (.sc _) st.sim (.refl _ _ _)⟩
    ·rw[QG st e1];refine e2 S b.t G (λ_ _=>rfl) C w a N st _ _ ?_;rintro v w' C' S' p ⟨rfl,rfl⟩ a1 hs q;exact a3 val pre row Fp _ _ C' w' _ (l _ rfl) a1 hs q
   -- operation i is one that comes where operations may turn objects
   have chain:∀(pre:List Nat) (row:Row) (val:Nat->PV) (Fp:Nat->PV),row.chain=true->i ∉ pre->Mid P r n ops ids Sb F0 K (λj=>listed.getD j false=true) G S val pre row Fp ->
     wpOpIn (Fe r) n P ops Q' i (wpAnyIn (Fe r) n P .any ops Q' g (listed.setIfInBounds i true)) a w:=by
    intro pre row val Fp e8 k b;have z:∀e∈vT o,e∈pre:=λe he=>b.sub e (u e he)
    have b8:Y0 ops pre i=true:=by
     unfold Y0;rw[ho];simp only[Ar,Aw];exact⟨λe he=>by simpa using z e he,by simpa using k⟩
    obtain⟨rest,s,hx⟩:=Zk9 ho b8 row [] DP e8 b.row b.px;have s1:=V8 R b.closedE b.frmE ho a5 u;have s2:=V8 R b.closedP b.frmP ho k z;have eq:=Ze3 s1 s2;have l:∀(p:PV) (S':Store),PX P r n ops ids Sb rest (yg Fp o.dst p) S' K->yR ids Sb S'->Mid P r n ops ids Sb F0 K (λj=>j=i\/listed.getD j false=true) (yg G o.dst p) S' (λj=>if j=i then p else val j) (i :: pre) rest (yg Fp o.dst p):=by
     intro p S' hp d2;have e9:∀j,listed.getD j false=true->(λj=>if j=i then p else val j) j=val j:=λj c=>if_neg (λ(e:j=i)=>a5 (e ▸ c))
     have d7:∀j,j∈pre->(λj=>if j=i then p else val j) j=val j:=λj c=>if_neg (λ(e:j=i)=>k (e ▸ c))
     refine⟨c6,?_,Zaa R b.frmE ho DP e9,?_,?_,?_,hp,s,d2⟩
     ·intro j oj c f e he;rw[Au]at c ⊢;rcases c with rfl | c
      ·rw[ho]at f;cases f;exact .inr (z e he)
      ·exact .inr (b.closedP j oj c f e he)
     ·have:=Zaa (val':=λj=>if j=i then p else val j) R b.frmP ho (p:=p) DP d7;intro t;exact⟨λj oj c f hd=>(this t).1 j oj (Au.1 c) f hd,λf0=>(this t).2 λj oj c f=>f0 j oj (Au.2 c) f⟩
     ·intro j c;rw[Au];exact c.imp id (b.sub j)
     ·intro j c hn;rw[Au]at c;rcases c with c | c
      ·exact absurd (.inl c) hn
      ·exact Ze5 R b.closedP d7 c (b.evid j c (λh=>hn (.inr h)))
    unfold wpOpIn;rw[ho];dsimp only;rcases hx with ⟨e1,hx⟩ | ⟨e1,hx⟩
    ·rw[QG st ((V9 eq).trans e1)];exact⟨λ_ _=>trivial,a3 _ _ _ _ _ S C w _ (l _ S hx b.t) (.sc _) st.sim (.refl _ _ _)⟩
    ·rw[QG st ((V9 eq).trans e1)];refine hx G (Ze4 eq) C w a N st _ _ ?_;rintro v w' C' S' p ⟨d2,hp⟩ a1 d8 q;exact a3 _ _ _ _ p S' C' w' v (l p S' hp d2) a1 d8 q
   -- the pure run is taken ahead until operation i has been met
   have f1:∀(row:Row) (pre:List Nat) (val:Nat->PV) (Fp:Nat->PV),Mid P r n ops ids Sb F0 K (λj=>listed.getD j false=true) G S val pre row Fp ->
     wpOpIn (Fe r) n P ops Q' i (wpAnyIn (Fe r) n P .any ops Q' g (listed.setIfInBounds i true)) a w:=by
    intro row
    induction row with
    | done =>
     intro pre val Fp b;have s:=b.row;simp only[wA,Aw,AK]at s;exact y pre _ val Fp (by simpa using s i a4) b
    | stop =>
     intro pre val Fp b
     by_cases k:i∈pre
     ·exact y pre _ val Fp k b
     ·exact chain pre _ val Fp rfl k b
    | alt j r1 m _ _ =>
     intro pre val Fp b
     by_cases k:i∈pre
     ·exact y pre _ val Fp k b
     ·exact chain pre _ val Fp rfl k b
    | pure j rest d9 =>
     intro pre val Fp b
     by_cases k:i∈pre
     ·exact y pre _ val Fp k b
     ·have s:=b.row;simp only[wA,Ar]at s;obtain⟨oj,f,_,_⟩:=Zab s.1;rcases Zk8 f b.px with ⟨e1,hx⟩ | ⟨e1,p,e2,hx⟩
      ·exact d9 _ _ _ (Ze6 R b f hx (.inl ⟨e1,rfl⟩))
      ·exact d9 _ _ _ (Ze6 R b f hx (.inr ⟨e1,e2⟩))
   grind
theorem Zac{id:Nat}{ops:Array Oper}(ids:Option (List Nat))(row:Row)(hm:P.follows .mixedOrders=true)(s:vw N ops=true)(u:Jw ops=true)(f:wA ops [] [] row=true)
  (h:PX P r n ops ids S row F S (Q .normal)):PW P r n N (.region id ops true) Q F S:=by
 intro C w a st;have R:=Zk6 u;refine wpIn_region_any hm ?_;obtain⟨hs,b⟩:=st.sim.drew;have k:St r C S w.drew N F a:=⟨hs,st.size,λi=>(st.fr i).mono b,r.keep b st.v⟩;have m:∀j,(Array.replicate ops.size false).getD j false=false:=by
  intro j;rw[A6,Dp];split<;>rfl
 refine Zla (Q':=λe p w'=>∃F' S' C',Q e F' S'/\St r C' S' w' N F' p/\Defs w.heap.size a.defers C' S' w' p.defers/\Step C S w C' S' w') (V6 s) R (ids:=ids) (Sb:=S) (F0:=F) (K:=Q .normal) (C0:=C) (S0:=S) (w0:=w) (ds:=a.defers)
  (λF' S' C' w' p x q y g=>⟨F',S',C',x,q,.of_eq y,g⟩) ops.size _ (List.range ops.size) F S C w.drew a (λ_=>.junk) [] row F DP DP (λi hi _=>AK.2 hi) ?_ k rfl b
 have d:∀j,¬((Array.replicate ops.size false).getD j false=true):=λj h=>by simp_all
 refine⟨λj o c=>absurd c (d j),(λj o c=>nomatch c),?_,?_,λj c=>absurd c (d j),(λj c=>nomatch c),h,f,?_⟩
 ·exact λt=>⟨λj o c=>absurd c (d j),λ_=>rfl⟩
 ·exact λt=>⟨(λj o c=>nomatch c),λ_=>rfl⟩
 ·cases ids with
  | none=>rfl
  | some l=>exact λ_ _=>rfl
end
end Go.Proofs.YtcocagkbfpgmiaaGreatDoor.Pv
