/- Part of a proof, packed. -/
import Derived.Test.YtdjbbndbalhekaaGreatDoorCards
import Derived.Test.YtdjbbndbalhekaaGreatDoorTie
import Derived.SevenTiedAt
import Derived.Lay
import Derived.PinnedBridge
import Derived.WalkKit
import Derived.OrdersIn
import Derived.ControlIn
import Derived.Laws.StructEq
import Derived.RangeFuncCalls
import Derived.RangeFuncRecord
import Derived.RangeFuncSeq
import Derived.Lib.Hide
import Derived.Test.YtdjbbndbalhekaaGreatDoorRows
import Derived.ProofKit
import Derived.Shelf.Strings.Builder1
import Derived.Shelf.Strings.Builder2
import Derived.Shelf.Strings.OnBuilder
import Derived.Shelf.Small.Bits
import Derived.Shelf.Small.Wraps
import Derived.Shelf.Strings.BuilderF
import Derived.Shelf.Strings.BuilderK
import Derived.Shelf.Utf8.RuneCount
import Derived.Shelf.Strings.Builder2Cap
import Derived.Shelf.Strconv.Itoa0
import Derived.Shelf.Strings.Search1
import Derived.Shelf.Strings.Search2
import Derived.Shelf.Strings.Search3
import Derived.Shelf.Strings.Cut
import Derived.Shelf.Strings.Count
import Derived.Shelf.LaysM
import Derived.Shelf.Strings.Shaped
import Derived.Shelf.Sort.Plain
import Derived.Shelf.Strings.Split
import Derived.Shelf.Strings.SplitShaped
import Derived.Shelf.Unicode.Decode
import Derived.Shelf.Strings.RuneCount
import Derived.Shelf.Strings.Explode
import Derived.Shelf.Bits.Mul64
import Derived.Shelf.Unicode.DecodeSlow
import Derived.Shelf.Unicode.DecodeAny
import Derived.Shelf.Strings.BuilderCap
import Derived.Shelf.Slices.Equal
import Derived.Ground.Names2Prog
import Derived.Shelf.Slices.SearchI
import Derived.Shelf.Slices.In.SortNone
import Derived.Shelf.Slices.Empties
import Derived.Shelf.Slices.Empties2
import Derived.Ground.SlsfProg
import Derived.Shelf.SlSortCmp.Insertion
import Derived.Shelf.SlSortCmp.SiftDown1
import Derived.Shelf.SlSortCmp.HeapSort1
import Derived.Shelf.SlSortCmp.Insertion1
import Derived.Shelf.SlSortCmp.Median1
import Derived.Shelf.SlSortCmp.Pivot1
import Derived.Shelf.SlSortCmp.ReverseRange1
import Derived.Shelf.SlSortCmp.PartialInsertion1
import Derived.Shelf.SlSortCmp.PartitionEqual1
import Derived.Shelf.SlSortCmp.Partition1
import Derived.Shelf.SlSortCmp.Pdq1
import Derived.Shelf.SlSortCmp.Whole1
import Derived.Shelf.SlSortCmp.NoneTotal
import Derived.Test.YtdjbbndbalhekaaGreatDoorProg
import Derived.Sort.OwnSortedInts
import Derived.Laws.CopyRow
import Derived.Laws.IdiomCopy
import Derived.Laws.Externs
import Derived.Shelf.Spec.SlicesInsertGrow
import Derived.Shelf.Spec.SlicesGrow
import Derived.Lib.QuietBelow
import Derived.Lib.SliceRun
import Derived.Lib.SlicesDelete
import Derived.Deep.RegionLaw
import Derived.WalkSmall
import Derived.OpenShut
import Derived.Laws.BytesArg
import Derived.Lib.Strings
import Derived.Lib.SplitLaws
open Go.Proofs.Tryz
set_option linter.defProp false
set_option maxRecDepth 100000
set_option maxHeartbeats 3200000
namespace Go.Proofs.YtdjbbndbalhekaaGreatDoor
def EA{p:Prop}(h:p:=by omega):p:=h
variable {p:Prop}
def EB(h:p:=by simp):p:=h
def EC(h:p:=by simp;rfl):p:=h
def ED(h:p:=by kernel_rfl):p:=h
def EF(h:p:=by simp;omega):p:=h
def EG(h:p:=by rfl):p:=h
def EH(h:p:=by decide):p:=h
def EI(h:p:=by grind):p:=h
def EJ(h:p:=by simp_all):p:=h
open Go Go.Proofs
abbrev Aa:=@List.mem_of_getElem?
abbrev Ab:=@List.length_cons
abbrev Ac:=@List.getElem?_eq_getElem
abbrev Ad:=@List.getElem?_eq_some_iff
abbrev Ae:=@List.take_of_length_le
abbrev Af:=@Nat.le_refl
abbrev Ag:=@List.length_nil
abbrev Ah:=@List.take_length
abbrev Ai:=@List.getElem?_map
abbrev Aj:=@List.mem_map
abbrev Ak:=@List.length_append
abbrev Al:=@List.mem_cons
abbrev Am:=@List.getElem?_append_right
abbrev An:=@Option.map_eq_some_iff
abbrev Ao:=@List.getElem?_eq_none
abbrev Ap:=@List.map_cons
abbrev Aq:=@Result.andThen_ok
abbrev Ar:=@List.flatMap_append
abbrev As:=@List.getElem?_append_left
abbrev Au:=@Int.eq_ofNat_of_zero_le
abbrev Av:=@List.eq_nil_of_length_eq_zero
abbrev Aw:=@Bool.and_eq_true
abbrev Ax:=@List.flatMap_cons
abbrev Ay:=@List.all_eq_true
abbrev Az:=@List.length_take
abbrev AA:=@List.append_nil
abbrev AB:=@List.mem_append
abbrev AC:=@List.range_succ
abbrev AD:=@IntKind.wrap_i64
abbrev AE:=@List.take_add_one
abbrev AF:=@Nat.le_trans
abbrev AG:=@List.drop_eq_getElem_cons
abbrev AH:=@List.getElem?_toArray
abbrev AI:=@List.nil_append
abbrev AJ:=@Int.toNat_natCast
abbrev AK:=@List.set_eq_take_append_cons_drop
abbrev AL:=@List.sum_cons
abbrev AM:=@Nat.add_sub_cancel_left
abbrev AN:=@List.mem_range
abbrev AO:=@List.set_cons_succ
abbrev AP:=@List.getElem?_take_of_lt
abbrev AQ:=@List.map_congr_left
abbrev AR:=@Option.map_some
abbrev AS:=@List.length_singleton
abbrev AT:=@List.drop_of_length_le
abbrev AU:=@List.take_succ_eq_append_getElem
abbrev AV:=@List.getElem?_drop
abbrev AW:=@List.set_cons_zero
abbrev AX:=@List.mem_filter
abbrev AY:=@Int.tmod_eq_emod_of_nonneg
abbrev AZ:=@List.getElem_mem
abbrev A3:=@Nat.zero_add
abbrev A4:=@List.getElem?_range
abbrev A5:=@List.mem_singleton
abbrev A6:=@List.foldl_cons
abbrev A7:=@Bool.false_eq_true
abbrev A8:=@List.map_nil
abbrev A9:=@List.getElem?_set_self
abbrev Ba:=@Array.getElem?_eq_getElem
abbrev Bb:=@List.sum_append
abbrev Bc:=@Int.mul_nonneg
abbrev Bd:=@List.mem_flatten
abbrev Be:=@List.not_mem_nil
abbrev Bf:=@List.getElem?_set_ne
abbrev Bg:=@List.ext_getElem?
abbrev Bh:=@List.flatten_cons
abbrev Bi:=@List.ext_getElem
abbrev Bj:=@Array.getD_eq_getD_getElem?
abbrev Bk:=@List.getElem?_cons_succ
abbrev Bl:=@List.pairwise_cons
abbrev Bm:=@Int.mul_le_mul
abbrev Bn:=@Array.getElem?_eq_some_iff
abbrev Bo:=@Nat.lt_or_ge
abbrev Bp:=@List.getElem?_cons_zero
abbrev Bq:=@List.length_drop
abbrev Br:=@List.replicate_succ
abbrev Bs:=@Nat.sub_self
abbrev Bt:=@Nat.min_eq_left
abbrev Bu:=@List.mem_of_mem_take
abbrev Bv:=@List.mem_iff_getElem?
abbrev Bw:=@Nat.lt_of_lt_of_le
abbrev Bx:=@Int.tdiv_eq_ediv_of_nonneg
abbrev By:=@List.mem_flatMap
abbrev Bz:=@List.drop_length
abbrev BA:=@List.filter_eq_nil_iff
abbrev BB:=@Array.getElem?_append_left
abbrev BC:=@World.putObj_heap_other
abbrev BD:=@List.length_pos_iff
abbrev BE:=@List.filter_cons_of_neg
abbrev BF:=@List.take_append_of_le_length
abbrev BG:=@List.getElem?_set
abbrev BH:=@List.mem_or_eq_of_mem_set
abbrev BI:=@List.pairwise_iff_getElem
abbrev BJ:=@List.foldl_append
abbrev BK:=@Nat.add_zero
abbrev BL:=@Nat.pow_le_pow_right
abbrev BM:=@List.filter_append
abbrev BN:=@Array.getElem?_modify
abbrev BO:=@Nat.zero_le
abbrev BP:=@List.length_set
abbrev BQ:=@List.set_append_right
abbrev BR:=@List.length_filter_le
abbrev BS:=@List.mem_of_mem_drop
abbrev BT:=@List.mem_cons_of_mem
abbrev BU:=@Nat.mul_one
abbrev BV:=@List.getElem?_take
abbrev BW:=@List.drop_eq_nil_of_le
abbrev BX:=@Array.toList_inj
abbrev BY:=@List.drop_append_of_le_length
abbrev BZ:=@List.any_eq_true
abbrev B0:=@Int.mul_le_mul_of_nonneg_left
abbrev B1:=@List.size_toArray
abbrev B3:=@List.map_map
abbrev B4:=@Array.getElem?_append_right
abbrev B5:=@Nat.add_sub_cancel
abbrev B6:=@Int.mul_add
abbrev B7:=@List.filter_cons_of_pos
abbrev B8:=@List.length_eraseIdx_of_lt
abbrev B9:=@Array.getElem?_extract
abbrev Ca:=@World.putObj_heap_same
abbrev Cb:=@List.all_eq_false
abbrev Cc:=@Int.le_refl
abbrev Cd:=@List.filterMap_append
abbrev Cf:=@List.length_replicate
abbrev Cg:=@Array.getElem?_setIfInBounds_self_of_lt
abbrev Ch:=@Nat.eq_zero_or_pos
abbrev Ci:=@Nat.pos_of_ne_zero
abbrev Cj:=@Option.isSome_iff_exists
abbrev Ck:=@List.mem_cons_self
abbrev Cl:=@Option.bind_some
abbrev Cm:=@List.filter_cons
abbrev Cn:=@Array.mem_toList_iff
abbrev Co:=@List.getElem?_of_mem
abbrev Cp:=@Nat.mul_le_mul_left
abbrev Cq:=@List.mergeSort_perm
abbrev Cr:=@List.nodup_cons
abbrev Cs:=@List.mem_map_of_mem
abbrev Ct:=@List.sublist_flatten_of_mem
abbrev Cu:=@List.flatMap_nil
abbrev Cv:=@List.mem_filterMap
abbrev Cw:=@Nat.le_of_eq
abbrev Cx:=@Nat.mul_le_mul_right
abbrev Cy:=@Bool.not_eq_true'
abbrev Cz:=@Array.size_append
abbrev CA:=@Nat.le_succ_of_le
abbrev CB:=@List.any_eq_false
abbrev CC:=@List.reverse_cons
abbrev CD:=@List.length_eq_zero_iff
abbrev CE:=@Bool.true_and
abbrev CF:=@Int.toNat_of_nonneg
abbrev CG:=@List.drop_append
abbrev CH:=@List.getElem_map
abbrev CI:=@Nat.testBit_lt_two_pow
abbrev CJ:=@List.getElem_range
abbrev CK:=@List.singleton_append
abbrev CL:=@List.contains_iff_mem
abbrev CM:=@Int.natCast_add
abbrev CN:=@Nat.pow_lt_pow_right
abbrev CO:=@List.drop_eq_nil_iff
abbrev CP:=@Option.map_map
abbrev CR:=@List.getElem_of_mem
abbrev CU:=@List.map_eq_nil_iff
abbrev CV:=@Nat.testBit_two_pow
abbrev CW:=@Int.mul_comm
abbrev CX:=@List.length_filterMap_le
abbrev CY:=@Int.add_zero
abbrev CZ:=@List.all_cons
abbrev C4:=@Nat.le_mul_of_pos_right
abbrev C5:=@List.all_append
abbrev C6:=@List.pairwise_mergeSort
abbrev C7:=@Nat.lt_irrefl
abbrev C8:=@List.getElem?_replicate
abbrev C9:=@Nat.testBit_eq_decide_div_mod_eq
abbrev Da:=@List.range_succ_eq_map
abbrev Db:=@Nat.le_succ
abbrev Dc:=@List.pairwise_map
abbrev Dd:=@List.eraseIdx_eq_take_drop_succ
abbrev De:=@Array.getElem?_setIfInBounds_ne
abbrev Df:=@List.take_zero
abbrev Dg:=@Bool.false_and
abbrev Dh:=@Nat.zero_mul
abbrev Di:=@List.perm_append_comm
abbrev Dj:=@Int.mul_le_mul_of_nonneg_right
abbrev Dk:=@Int.ne_of_lt
abbrev Dl:=@List.sum_nil
abbrev Dm:=@Option.ite_none_right_eq_some
abbrev Dn:=@Nat.mod_eq_of_lt
abbrev Do:=@List.getElem_set
abbrev Dp:=@Nat.le_add_right
abbrev Dq:=@Int.ediv_le_self
abbrev Dr:=@Int.mul_le_mul_of_nonpos_left
abbrev Ds:=@Nat.eq_of_testBit_eq
abbrev Dt:=@List.replicate_succ'
abbrev Du:=@Array.getElem?_setIfInBounds
abbrev Dv:=@List.dropLast_concat_getLast
abbrev Dw:=@Bool.or_eq_true
abbrev Dx:=@List.take_succ_cons
abbrev Dy:=@List.filter_eq_self
abbrev Dz:=@List.reverse_append
abbrev DA:=@List.map_id
abbrev DB:=@List.perm_ext_iff_of_nodup
abbrev DC:=@Int.ediv_neg_of_neg_of_pos
abbrev DD:=@Int.emod_lt_of_pos
abbrev DE:=@Option.isSome_none
abbrev DF:=@Bool.not_false
abbrev DG:=@List.range_add
abbrev DH:=@List.take_take
abbrev DI:=@Bool.and_false
abbrev DJ:=@Nat.testBit_or
abbrev DK:=@Option.eq_none_or_eq_some
abbrev DL:=@Array.range_zero'
abbrev DM:=@Array.getElem_mem
abbrev DN:=@List.length_erase_of_mem
abbrev DO:=@Array.getElem?_replicate
abbrev DP:=@List.nodup_append
abbrev DQ:=@Int.not_lt
abbrev DR:=@List.length_range
abbrev DT:=@Bool.and_true
abbrev DU:=@List.take_nil
abbrev DV:=@List.map_toArray
abbrev DW:=@List.suffix_refl
abbrev DX:=@List.reverse_nil
abbrev DY:=@Nat.lt_of_not_le
abbrev DZ:=@List.getElem?_eraseIdx
abbrev D0:=@List.getElem_replicate
abbrev D1:=@Array.getElem?_eq_none
abbrev D2:=@List.length_pos_of_mem
abbrev D3:=@Int.sign_eq_one_of_pos
abbrev D4:=@Array.map_empty
abbrev D5:=@Nat.pow_succ
abbrev D6:=@Int.emod_nonneg
abbrev D7:=@List.take_left'
abbrev D8:=@Nat.le_of_lt
abbrev D9:=@Bool.eq_iff_iff
abbrev Ea:=@List.any_append
abbrev Eb:=@Option.map_none
abbrev Ec:=@List.filter_map
abbrev Ed:=@List.eq_nil_or_concat
abbrev Ee:=@Int.ediv_nonneg
abbrev Ef:=@World.alloc_eq
abbrev Eg:=@List.drop_zero
abbrev Eh:=@Nat.min_def
abbrev Ei:=@Nat.one_mul
abbrev Ej:=@Bool.false_or
abbrev Ek:=@Nat.sub_zero
abbrev El:=@Int.le_trans
abbrev Em:=@Nat.mul_comm
abbrev En:=@Int.pow_succ
abbrev Eo:=@Int.le_of_lt
end Go.Proofs.YtdjbbndbalhekaaGreatDoor
namespace Go.Proofs
open Go.Shelf
theorem b9{f:FuncId}{F:Func}(h:Tryz.prog.funcs[f]?=some {F with name:=((Tryz.prog.funcs[f]?).map Func.name).getD ""}:=by kernel_rfl)(d:(((Tryz.prog.funcs[f]?).map Func.name).getD "" == "runtime.NumGoroutine")=false:=by kernel_rfl):Bears Tryz.prog f F:=⟨_,d,h⟩
def Tryz.lays156_ren:Go.Shelf.Ren:=⟨fun | 156=>64 | 165=>105 | 166=>39 | 169=>42 | 240=>65 | 241=>149 | 276=>106 | 277=>193 | n=>n,fun | 31=>52 | 9=>9 | 3=>3 | 4=>4 | 0=>0 | 20=>20 | 72=>79 | 76=>82 | 70=>76 | 37=>77 | 75=>81 | 127=>126 | 164=>164 | 5=>5 | 80=>86 | n=>n,fun | n=>n⟩
theorem Tryz.lays156:Go.Proofs.Lays.n156 prog Tryz.lays156_ren:=by constructor<;>first|kernel_rfl|(intro _;kernel_rfl)|exact b9
theorem Tryz.Builder_Extra_156:Builder.Extra prog Tryz.lays156_ren:={
 sizeBuilder:=by kernel_rfl
 liesBuilder:=by kernel_rfl
 t5:=Tryz.underlying5
 a5:=Tryz.isAgg5
 z5:=Tryz.sizeOf5
 v5:=Tryz.zeroValue5
 infoByte:=by kernel_rfl
 cellsByte:=by kernel_rfl
 sizeByte:=by kernel_rfl
 neB5:=by decide }
def Tryz.lays219_ren:Go.Shelf.Ren:=⟨fun | 219=>194 | 217=>234 | 225=>235 | 224=>236 | 267=>237 | 266=>265 | 314=>266 | n=>n,fun | 9=>9 | 3=>3 | 4=>4 | 5=>5 | 46=>248 | 146=>303 | 51=>300 | n=>n,fun | 1=>0 | n=>n⟩
theorem Tryz.lays219:Go.Proofs.Lays.n219 prog Tryz.lays219_ren:=by constructor<;>first|kernel_rfl|(intro _;kernel_rfl)|exact b9
open Go.RowKit Go.Lib in
theorem Tryz.stringslite_Index_one(s:ByteArray)(c:UInt8)(w:World):
  Calls prog 194 #[.string s,.string ⟨#[c]⟩] w λe w'=>e=.returned (.int .i64 (Lib.indexByte s.data.toList c))/\w'=w:=Any.stringslite_Index_one Tryz.lays219 s c w
def Tryz.lays143_ren:Go.Shelf.Ren:=⟨fun | 143=>197 | 219=>194 | 217=>234 | 225=>235 | 224=>236 | 267=>237 | 266=>265 | 314=>266 | n=>n,fun | 9=>9 | 3=>3 | 4=>4 | 5=>5 | 46=>248 | 146=>303 | 51=>300 | n=>n,fun | 1=>0 | n=>n⟩
theorem Tryz.lays143:Go.Proofs.Lays.n143 prog Tryz.lays143_ren:=by constructor<;>first|kernel_rfl|(intro _;kernel_rfl)|exact b9
theorem Tryz.strings_Index_one(s:ByteArray)(c:UInt8)(w:World):
  Calls prog 197 #[.string s,.string ⟨#[c]⟩] w λe w'=>e=.returned (.int .i64 (Lib.indexByte s.data.toList c))/\w'=w:=Any.strings_Index_one Tryz.lays143 s c w
def Tryz.lays138_ren:Go.Shelf.Ren:=⟨fun | 138=>196 | 195=>238 | 218=>240 | 143=>197 | 219=>194 | 217=>234 | 225=>235 | 224=>236 | 267=>237 | 266=>265 | 314=>266 | n=>n,fun | 9=>9 | 3=>3 | 4=>4 | 5=>5 | 0=>0 | 46=>248 | 146=>303 | 51=>300 | n=>n,fun | 1=>0 | n=>n⟩
theorem Tryz.lays138:Go.Proofs.Lays.n138 prog Tryz.lays138_ren:=by constructor<;>first|kernel_rfl|(intro _;kernel_rfl)|exact b9
theorem Tryz.strings_Count_one(s:ByteArray)(c:UInt8)(w:World):
  Calls prog 196 #[.string s,.string ⟨#[c]⟩] w λe w'=>e=.returned (.int .i64 (Lib.countByte s.data.toList c))/\w'=w:=Any.strings_Count_one Tryz.lays138 s c w
def Tryz.lays189_ren:Go.Shelf.Ren:=⟨fun | 189=>157 | 125=>213 | 257=>212 | 128=>253 | 129=>254 | 294=>244 | 295=>245 | 296=>246 | 297=>247 | 298=>248 | 299=>249 | 216=>250 | 300=>251 | 301=>252 | 328=>270 | 329=>271 | 330=>272 | 331=>273 | 332=>274 | 215=>275 | 343=>295 | n=>n,fun | 28=>26 | 3=>3 | 46=>248 | 0=>0 | 51=>300 | 53=>65 | 4=>4 | 183=>293 | 182=>292 | 131=>102 | 5=>5 | 9=>9 | 218=>316 | 222=>132 | 228=>348 | 229=>194 | n=>n,fun | n=>n⟩
theorem Tryz.lays189:Go.Proofs.Lays.n189 prog Tryz.lays189_ren:=by constructor<;>first|kernel_rfl|(intro _;kernel_rfl)|exact b9
open Go.Sort
theorem Tryz.slices_Sort_int(a off cap:Nat)(zs:List Int)(w:World)(d:Holds (Value.int .i64) w a off zs.toArray)(b:a<w.heap.size)(c:zs.length<4611686018427387904):
  Calls prog 157 #[.slice (some ⟨a,off,none⟩) zs.length cap] w λe w' =>
   e=.returned (.tuple #[])/\∃n os,w'=grow (putRow (Value.int .i64) (Sort.ahead w n) a off (zs.mergeSort λx y=>decide (x<=y)).toArray) os:=Any.slices_Sort_int Tryz.lays189 a off cap zs w d b c
def Tryz.lays221_ren:Go.Shelf.Ren:=⟨fun | 221=>151 | 268=>195 | 138=>196 | 143=>197 | 195=>238 | 197=>239 | 218=>240 | 219=>194 | 260=>267 | 217=>234 | 225=>235 | 224=>236 | 267=>237 | 266=>265 | 314=>266 | n=>n,fun | 9=>9 | 3=>3 | 31=>52 | 4=>4 | 0=>0 | 105=>289 | 21=>21 | 5=>5 | 46=>248 | 119=>344 | 139=>347 | 138=>346 | 146=>303 | 51=>300 | n=>n,fun | 1=>0 | 3=>1 | 4=>2 | n=>n⟩
theorem Tryz.lays221:Go.Proofs.Lays.n221 prog Tryz.lays221_ren:=by constructor<;>first|kernel_rfl|(intro _;kernel_rfl)|exact b9
def Tryz.lays212_ren:Go.Shelf.Ren:=⟨fun | 212=>223 | 263=>256 | 264=>257 | n=>n,fun | 46=>248 | 51=>300 | 146=>303 | 53=>65 | 148=>305 | n=>n,fun | n=>n⟩
theorem Tryz.lays212:Go.Proofs.Lays.n212 prog Tryz.lays212_ren:=by constructor<;>first|kernel_rfl|(intro _;kernel_rfl)|exact b9
theorem Tryz.bits_Mul(x y:Nat)(hx:x<18446744073709551616)(a:y<18446744073709551616)(w:World):
  Calls prog 223 #[.int .u64 x,.int .u64 y] w λe w'=>e=.returned (.tuple #[.int .u64 ((x*y / 18446744073709551616:Nat):Int),.int .u64 ((x*y % 18446744073709551616:Nat):Int)])/\w'=w:=Any.bits_Mul Tryz.lays212 x y hx a w
def Tryz.laysNm225_ren:Go.Shelf.Ren:=⟨fun | 25=>344 | 31=>250 | 32=>362 | 37=>275 | n=>n,fun | 22=>26 | 3=>3 | 4=>4 | 40=>248 | 0=>0 | n=>n,fun | n=>n⟩
theorem Tryz.laysNm225:Go.Proofs.Lays2.n25 prog Tryz.laysNm225_ren:=by constructor<;>first|kernel_rfl|(intro _;kernel_rfl)|exact b9
theorem Tryz.slices_BinarySearch_int(b off n c:Nat)(zs:List Int)(x:Int)(w:World)(d:n<=zs.length)(a:n<4611686018427387904)(hc:∀j,j<zs.length->w.cell? ⟨b,off+j,none⟩=some (.int .i64 (zs.getD j 0)))(hs:(zs.take n).Pairwise (·<=·)):
  Calls prog 344 #[.slice (some ⟨b,off,none⟩) n c,.int .i64 x] w λe w'=>e=.returned (.tuple #[.int .i64 ((zs.take n).countP (·<x):Nat),.bool ((zs.take n).contains x)])/\∃q,w'=w.drewN q:=Any.slices_BinarySearch_int Tryz.laysNm225 b off n c zs x w d a hc hs
theorem Tryz.slices_Sort_int_none(p:Option Addr)(cap:Nat)(w:World):
  Calls prog 157 #[.slice p 0 cap] w λe w'=>e=.returned (.tuple #[])/\w'=w:=Any.slices_Sort_int_none Tryz.lays189 p cap w
theorem Tryz.slices_BinarySearch_int_empty(a:Option Addr)(c:Nat)(x:Int)(w:World):
  Calls prog 344 #[.slice a 0 c,.int .i64 x] w λe w'=>e=.returned (.tuple #[.int .i64 0,.bool false])/\w'=w:=Any.slices_BinarySearch_int_empty Tryz.laysNm225 a c x w
def Tryz.laysSlF6_f364_ren:Go.Shelf.Ren:=⟨fun | 6=>364 | 15=>213 | 14=>370 | 28=>253 | 29=>254 | 20=>372 | 21=>373 | 22=>374 | 23=>375 | 24=>376 | 25=>377 | 26=>378 | 27=>379 | 46=>380 | 47=>271 | 48=>272 | 49=>381 | 50=>382 | 57=>383 | n=>n,fun | 22=>26 | 24=>3 | 25=>45 | 3=>3 | 39=>248 | 0=>0 | 53=>300 | 55=>65 | 4=>4 | 46=>293 | 45=>292 | 50=>102 | 5=>5 | 9=>9 | 66=>316 | 70=>132 | 76=>348 | 77=>194 | n=>n,fun | n=>n⟩
theorem Tryz.laysSlF6_f364:Go.Proofs.SlLaysF.n6 prog Tryz.laysSlF6_f364_ren:=by constructor<;>first|kernel_rfl|(intro _;kernel_rfl)|exact b9
end Go.Proofs
namespace Go.Proofs.YtdjbbndbalhekaaGreatDoor.Pv
open Go Go.Proofs Go.Shelf Go.RowKit Go.Lib
def bz{P:Program}(w:World)(r s ty b:TypeId)(g o c e:Nat)(a:Addr)(d f k n:Nat)(cur:Array Value)(t:TypeId)(cs:List Value)
  (u:P.underlying r=some (.slice b)) (hs:(P.info? b).map (·.size)=some k) (hn:n=Nat.min d c)
  (x:w.heap[g]?=some (.cells cur t (0,0))) (hl:cs.length=n*k)
  (h:∀j v,cs[j]?=some v->w.cell? (a.add j)=some v) (l:o+cs.length<=cur.size) (h1:∀v∈cs,v.oneCell'=true) :
  (Builtin.copy_ #[r,s] ty #[.slice (some ⟨g,o,none⟩) c e,.slice (some a) d f]).run P w =
   .ok (goInt n) (w.setRow g (cur.toList.take o++cs++cur.toList.drop (o+cs.length)).toArray):=by
 have m:=run_loadCells_list (P:=P) w a cs h;have p:=run_storeCells_at P g o t cs 0 cur w x (by simpa using l) h1;rw[hl]at m;cases q:P.info? b with
 |none=>simp[q]at hs
 |some i =>
 have hi:i.size=k:=by simpa[q] using hs
 simp[Builtin.copy_,run_underlying u,Builtin.lenOf,Builtin.firstCells,sizeOf,typeInfo,q,hi,<-hn,m,p]
def Ij{P:Program}(w:World)(d s e:TypeId)(t:P.underlying d=some (.slice e))(size:Nat)(n:∀w,(Go.sizeOf e).run P w=.ok size w)
  (a b:Addr) (o u p v:Nat) (c:a.block≠b.block) (tA x:TypeId) (q r:Nat)
  (f:w.shape? a.block=some (tA,q+1)) (g:w.shape? b.block=some (x,r+1))
  (h:w.frozen? b=false) (i:w.frozen? { block:=b.block,off:=r+1 }=false) :
  (Extern.SlicesOverlaps.overlaps #[d,d] #[s] #[.slice (some a) o u,.slice (some b) p v]).run P w=.ok (.bool false) w:=by
 have j:(a.block != b.block)=true:=by simpa using c
 have k:(a.block==b.block)=false:=by simpa using c
 conv=>lhs;arg 2;whnf
 rw[Sem.run];simp only[Sem.bind,List.getElem_toArray,List.getElem_cons_zero,t];change Sem.run P (Bind.bind (pure (TypeDesc.slice e):Sem TypeDesc) _) w=_;by_cases h0:o=0\/p=0\/size=0;simp[n,h0];cases l:w.frozen? a<;>cases m:w.frozen? { block:=a.block,off:=q+1 } <;>
  simp[n,h0,j,k,frozen,noView,viewAt,mayBeOne,stringish,shape,Sem.run,f,g,l,m,h,i]
def Ik(b n c i vb vo vc:Nat)(cs vs:List Value)(w:World)(i0:TypeInfo)(z:Value)(m:prog.info? 101=some i0)(a2:i0.zero=some z)(o:i0.size=2)(p:i0.bytes=16)(a3:z.cells.size=2)
  (hi:i<n) (d8:n<=c) (q:c<n+1) (hn:n<=1048576) (a4:cs.length=n*2) (a5:vs.length=2)
  (f:∀j v,cs[j]?=some v->w.cell? ⟨b,j,none⟩=some v) (r:∀j v,vs[j]?=some v->w.cell? ⟨vb,vo+j,none⟩=some v) (a6:∀v∈cs,v.oneCell'=true) (a7:∀v∈vs,v.oneCell'=true)
  (G:Nat) (hG:G=grownCap w (n+1) c 101) (ROW:Array Value) (a:ROW=(cs.take (i*2)).toArray++Builtin.zeroCells z.cells (n+1-i)++Builtin.zeroCells z.cells (G-(n+1))) (R1 R2:Array Value)
  (s:R1=(ROW.toList.take (i*2)++vs++ROW.toList.drop (i*2+2)).toArray) (a8:R2=(R1.toList.take ((i+1)*2)++cs.drop (i*2)++R1.toList.drop ((i+1)*2+(cs.drop (i*2)).length)).toArray) :
  Calls prog 329 #[.slice (some ⟨b,0,none⟩) n c,.int .i64 i,.slice (some ⟨vb,vo,none⟩) 1 vc] w λe w' =>
   e=.returned (.slice (some ⟨w.heap.size,0,none⟩) (n+1) G)/\w'=((w.drew.alloc (.cells ROW 101)).setRow w.heap.size R1).drew.setRow w.heap.size R2:=by
 have d9:¬((i:Int)=(n:Int)):=EA;have e0:(c:Int)<(n:Int)+1:=EA;have t:(prog.info? 101).map (·.size)=some 2:=by rw[m];simp[o]
 have a9:(n:Int)+1-(i:Int)=((n+1-i:Nat):Int):=EA;have u:i+(n+1-i)=n+1:=EA;have hold:(Builtin.firstCells i0.size i (.slice (some ⟨b,0,none⟩) i c)).run prog w.drew=.ok (cs.take (i*2)).toArray w.drew:=by rw[o];exact run_firstCells_some w.drew 2 i ⟨b,0,none⟩ i c (cs.take (i*2)) (by rw[Az];omega) (λj v k=>by rw[BV]at k;split at k;have:=f j v k;rw[Addr.add_lit,A3];exact this;cases k)
 have b7:∀ty,(Builtin.append_ #[97,3] ty #[.slice (some ⟨b,0,none⟩) i c,.int .i64 ((n:Int)+1-(i:Int))]).run prog w =
   .ok (.slice (some ⟨w.heap.size,0,none⟩) (n+1) G) (w.drew.alloc (.cells ROW 101)):=λty=>by
  have h:=Lib.run_append_grow_zeros w 97 3 ty 101 i0 _ .i64 .i64 underlying97 underlying3 m a2 (some ⟨b,0,none⟩) i c (cs.take (i*2)) hold (n+1-i) EA EA EA EA (by rw[p];omega) (by rw[p,u];exact growslice_fits q EA);rw[u]at h;rw[a9,a,hG];exact h
 have d4:ROW.size=G*2:=by rw[a];have:=grownCap_ge w (n+1) c 101;simp[Builtin.zeroCells,a3];omega
 have e1:n+1<=G:=by rw[hG];exact grownCap_ge w _ _ _
 have d6:G<=9223372036854775807:=by have:=grownCap_le_maxLen w (n+1) c 101 (by unfold maxLen;omega);rw[<-hG]at this;unfold maxLen at this;omega
 have b8:b<w.heap.size:=block_lt_of_cell (f 0 _ (Ac EA));have c6:vb<w.heap.size:=block_lt_of_cell (r 0 _ (Ac EA));obtain⟨W1,d⟩:∃W1,W1=w.drew.alloc (.cells ROW 101):=⟨_,rfl⟩;have c7:W1.heap[w.heap.size]?=some (.cells ROW 101 (0,0)):=by rw[d];show (w.heap.push _)[w.heap.size]?=_;exact Array.getElem?_push_size
 have y:∀b',b'<w.heap.size->∀j v,w.cell? ⟨b',j,none⟩=some v->W1.cell? ⟨b',j,none⟩=some v:=λb' d5 j v h=>by rw[d,World.cell?_alloc_past (w:=w.drew) _ b' j d5];exact h
 have c8:∀W:World,W.heap=W1.heap->∀x,W.cell? x=W1.cell? x:=λW g x=>by unfold World.cell?;rw[g]
 have hA:∀(W:World),W.heap=W1.heap->∀ty dc,(Builtin.copy_ #[97,97] ty #[.slice (some ⟨w.heap.size,i*2,none⟩) (n+1-i) dc,.slice (some ⟨vb,vo,none⟩) 1 vc]).run prog W=.ok (goInt 1) (W.setRow w.heap.size R1):=λW g ty dc=>by
  have:=bz (P:=prog) W 97 97 ty 101 w.heap.size (i*2) (n+1-i) dc ⟨vb,vo,none⟩ 1 vc 2 1 ROW 101 vs underlying97 t (by simp only[Eh];split<;>omega) (by rw[g];exact c7) EA
   (λj v k=>by rw[Addr.add_lit,c8 W g];exact y vb c6 _ v (r j v k)) EA a7
  rw[a5,<-s]at this;exact this
 obtain⟨W2,a0⟩:∃W2,W2=W1.setRow w.heap.size R1:=⟨_,rfl⟩;have d0:W2.heap[w.heap.size]?=some (.cells R1 101 (0,0)):=by rw[a0];exact setRow_heap _ _ _ _ _ _ c7
 have d1:R1.size=G*2:=by rw[s];simp;omega
 have l:∀j v,cs[j]?=some v->W2.cell? ⟨b,j,none⟩=some v:=λj v h=>by
  have h1:=y b b8 j v (f j v h);rw[a0];have h2:(W1.setRow w.heap.size R1).heap[b]?=W1.heap[b]?:=by unfold World.setRow;simp only[BN];rw[if_neg EA]
  unfold World.cell? at h1 ⊢;rw[h2];exact h1
 have a1:∀W:World,W.heap=W2.heap->∀x,W.cell? x=W2.cell? x:=λW g x=>by unfold World.cell?;rw[g]
 have d2:(cs.drop (i*2)).length=(n-i)*2:=by rw[Bq,a4];omega
 have hB:∀(W:World),W.heap=W2.heap->∀ty dc sc,(Builtin.copy_ #[97,97] ty #[.slice (some ⟨w.heap.size,(i+1)*2,none⟩) (n+1-(i+1)) dc,.slice (some ⟨b,i*2,none⟩) (n-i) sc]).run prog W=.ok (goInt (n-i:Nat)) (W.setRow w.heap.size R2):=λW g ty dc sc=>by
  have:=bz (P:=prog) W 97 97 ty 101 w.heap.size ((i+1)*2) (n+1-(i+1)) dc ⟨b,i*2,none⟩ (n-i) sc 2 (n-i) R1 101 (cs.drop (i*2)) underlying97 t (by simp only[Eh];split<;>omega) (by rw[g];exact d0) d2
   (λj v k=>by rw[Addr.add_lit,a1 W g];exact l _ v (by rwa[AV]at k)) EA (λv hv=>a6 v (BS hv))
  rw[<-a8]at this;exact this
 have d3:W1.heap=(w.drew.alloc (.cells ROW 101)).heap:=by rw[d]
 clear a s a8 hold f r y l a2 a3 d3 a9 u hG a4 a5 t d4 d1 d2 a6 a7 o p m b8 c6;have e2:¬(c=i):=EA;have e3:¬(G=i):=EA;have d7:¬(G=i+1):=EA;have e4:IntKind.i64.wrap ((i:Int)+1)=(i:Int)+1:=by rw[AD];omega
 have e5:(0:Int)<=(i:Int)+1:=EA;have e6:i<=n:=EA;have e7:((i:Int)+1).toNat=i+1:=EA;have e8:(i:Int)<=(n:Int):=EA;rw[<-d]at b7;have mixed:prog.follows .mixedOrders=true:=ED
 go_enter func329,ntmps329
 go_wp2_with (first
  |(at_builtin;refine Lib.wpList_append_run _ rfl _ _ _ _ rfl _ _ rfl rfl _ _ (b7 _) ?_)
  |(at_builtin;refine wpList_copy_runI _ rfl _ _ 97 97 rfl _ _ rfl rfl (hA _ rfl _ _) ?_))
 go_region_law_o (refine step_copy_runI rfl _ _ 97 97 rfl (.slice (some ⟨w.heap.size,(i+1)*2,none⟩) (n+1-(i+1)) (G-(i+1))) (.slice (some ⟨b,i*2,none⟩) (n-i) (c-i)) (by simp[Act.eval,Act.put]) (by simp[Act.eval,Act.put]) (hB _ (by rw[a0,d];rfl) 3 (G-(i+1)) (c-i)) ?_)
 go_wp2
 go_ret
 exact⟨rfl,rfl⟩
def Il(b n c i d g r:Nat)(cs vs:List Value)(w:World)(k:(prog.info? 101).map (·.size)=some 2)(cur:Array Value)(a:w.heap[b]?=some (.cells cur 101 (0,0)))(s:cur.size=c*2)
  (hi:i<n) (b8:n+1<=c) (c7:c<=9223372036854775807) (hn:n<=1048576) (t:cs.length=n*2) (u:vs.length=2) (y:d≠b)
  (z:∀j v,cs[j]?=some v->w.cell? ⟨b,j,none⟩=some v) (a0:∀j v,vs[j]?=some v->w.cell? ⟨d,g+j,none⟩=some v) (a1:∀v∈cs,v.oneCell'=true) (a2:∀v∈vs,v.oneCell'=true)
  (tA:TypeId) (kA:Nat) (a3:w.shape? d=some (tA,kA+1)) (R1 R2:Array Value)
  (l:R1=(cur.toList.take ((i+1)*2)++cs.drop (i*2)++cur.toList.drop ((i+1)*2+(cs.drop (i*2)).length)).toArray) (a4:R2=(R1.toList.take (i*2)++vs++R1.toList.drop (i*2+2)).toArray) :
  Calls prog 329 #[.slice (some ⟨b,0,none⟩) n c,.int .i64 i,.slice (some ⟨d,g,none⟩) 1 r] w λe w' =>
   e=.returned (.slice (some ⟨b,0,none⟩) (n+1) c)/\w'=(w.drew.setRow b R1).setRow b R2:=by
 have d1:¬((i:Int)=(n:Int)):=EA;have d2:¬((c:Int)<(n:Int)+1):=EA;have a5:(cs.drop (i*2)).length=(n-i)*2:=by rw[Bq,t];omega
 have a6:w.shape? b=some (101,(c*2-1)+1):=by unfold World.shape?;rw[a];simp[s];omega
 have m:∀j,w.frozen? ⟨b,j,none⟩=false:=λj=>by simp[World.frozen?,a]
 have c6:∀lb cb,(callFunc 346 #[.slice (some ⟨d,g,none⟩) 1 r,.slice (some ⟨b,(i+1)*2,none⟩) lb cb]).run prog w=.ok (.value (.bool false)) w:=λlb cb=>by
  rw[run_callFunc_extern func346 ED ED ED (e:=Extern.SlicesOverlaps.overlaps #[97,97] #[4]) ED,
   Ij w 97 4 101 underlying97 2 sizeOf101 ⟨d,g,none⟩ ⟨b,(i+1)*2,none⟩ 1 r lb cb y tA 101 kA (c*2-1) a3 a6 (m _) (m _)]
  rfl
 have a7:∀W:World,W.heap=w.heap->∀x,W.cell? x=w.cell? x:=λW f x=>by unfold World.cell?;rw[f]
 have hA:∀(W:World),W.heap=w.heap->∀ty o sc,(Builtin.copy_ #[97,97] ty #[.slice (some ⟨b,(i+1)*2,none⟩) (n+1-(i+1)) o,.slice (some ⟨b,i*2,none⟩) (n+1-i) sc]).run prog W=.ok (goInt (n-i:Nat)) (W.setRow b R1):=λW f ty o sc=>by
  have:=bz (P:=prog) W 97 97 ty 101 b ((i+1)*2) (n+1-(i+1)) o ⟨b,i*2,none⟩ (n+1-i) sc 2 (n-i) cur 101 (cs.drop (i*2)) underlying97 k (by simp only[Eh];split<;>omega) (by rw[f];exact a) a5
   (λj v hj=>by rw[Addr.add_lit,a7 W f];exact z _ v (by rwa[AV]at hj)) EA (λv hv=>a1 v (BS hv))
  rw[<-l]at this;exact this
 obtain⟨W1,p⟩:∃W1,W1=w.drew.setRow b R1:=⟨_,rfl⟩;have a8:W1.heap[b]?=some (.cells R1 101 (0,0)):=by rw[p];exact setRow_heap _ _ _ _ _ _ a
 have a9:R1.size=c*2:=by rw[l];simp;omega
 have b7:∀j v,vs[j]?=some v->W1.cell? ⟨d,g+j,none⟩=some v:=λj v h=>by have h1:=a0 j v h;rw[p];unfold World.cell? at h1 ⊢;rw[setRow_other _ _ _ _ y];exact h1
 have q:∀W:World,W.heap=W1.heap->∀x,W.cell? x=W1.cell? x:=λW f x=>by unfold World.cell?;rw[f]
 have hB:∀(W:World),W.heap=W1.heap->∀ty o,(Builtin.copy_ #[97,97] ty #[.slice (some ⟨b,i*2,none⟩) (n+1-i) o,.slice (some ⟨d,g,none⟩) 1 r]).run prog W=.ok (goInt 1) (W.setRow b R2):=λW f ty o=>by
  have:=bz (P:=prog) W 97 97 ty 101 b (i*2) (n+1-i) o ⟨d,g,none⟩ 1 r 2 1 R1 101 vs underlying97 k (by simp only[Eh];split<;>omega) (by rw[f];exact a8) EA
   (λj v hj=>by rw[Addr.add_lit,q W f];exact b7 j v hj) EA a2
  rw[u,<-a4]at this;exact this
 have d3:¬(c=i):=EA;have c8:¬(c=i+1):=EA;have d4:IntKind.i64.wrap ((i:Int)+1)=(i:Int)+1:=by rw[AD];omega
 have d5:(0:Int)<=(i:Int)+1:=EA;have d6:i<=n:=EA;have d0:i<=n+1:=EA;have d7:((i:Int)+1).toNat=i+1:=EA;have d8:(i:Int)<=(n:Int):=EA;have d9:(i:Int)<=(n:Int)+1:=EA;clear l a4 z a0 b7 k t u a5 a1 a2 a s a3 a6 m a9;have mixed:prog.follows .mixedOrders=true:=ED
 go_enter func329,ntmps329
 go_wp2_with (simp only[c6])
 go_region_law_o (refine step_copy_runI rfl _ _ 97 97 rfl (.slice (some ⟨b,(i+1)*2,none⟩) (n+1-(i+1)) (c-(i+1))) (.slice (some ⟨b,i*2,none⟩) (n+1-i) (c-i)) (by simp[Act.eval,Act.put]) (by simp[Act.eval,Act.put]) (hA _ EG 3 (c-(i+1)) (c-i)) ?_)
 go_wp2_with (at_builtin;refine wpList_copy_runI _ rfl _ _ 97 97 rfl _ _ rfl rfl (hB _ (by rw[p];rfl) _ _) ?_)
 go_ret
 exact⟨rfl,rfl⟩
end Go.Proofs.YtdjbbndbalhekaaGreatDoor.Pv
namespace Go.Proofs
open Go.Shelf
def Tryz.growStop_ren:Go.Shelf.Ren:=⟨fun | 4=>361 | n=>n,fun | 22=>97 | 25=>101 | 3=>3 | 4=>4 | 9=>9 | 20=>20 | 0=>0 | 2=>3 | n=>n,fun | n=>n⟩
theorem Tryz.growStop:Go.Proofs.Lays8.n4 prog Tryz.growStop_ren:=by constructor<;>first|kernel_rfl|(intro _;kernel_rfl)|exact b9
open Go.RowKit Go.Lib in
theorem Tryz.slices_Grow_stop(i0:TypeInfo)(z:Value)(c:prog.info? (101)=some i0)(d:i0.zero=some z)(f:0<i0.size)(n:Nat)(w:World)(g:0<n)(b:(0+n)*i0.bytes<=140737488355328)(i:0+n<=4611686018427387904):
  Calls prog 361 #[.slice none 0 0,.int .i64 n] w λe w' =>
   e=.returned (.slice (some ⟨w.heap.size,0,none⟩) 0 (grownCap w (0+n) 0 (101))) /\
   w'=w.drew.alloc (.cells ((#[]:Array Value)++Builtin.zeroCells z.cells (0+n-0)++Builtin.zeroCells z.cells (grownCap w (0+n) 0 (101)-(0+n))) (101)):=Any8.slices_Grow_grow Tryz.growStop i0 z c d f none 0 0 n [] w (by omega) (by omega) b i (by simp) (λ_=>rfl) (λa h=>by cases h)
end Go.Proofs
namespace Go.Proofs.YtdjbbndbalhekaaGreatDoor.Hp
structure Str {α:Type} (lt:α->α->Bool):Prop where
 irr:∀a,lt a a=false
 tr:∀a b c,lt a b=true->lt b c=true->lt a c=true
 tot:∀a b,lt a b=false->lt b a=false->a=b
section
variable {α:Type}
def il[DecidableEq α](lt:α->α->Bool)(a b:Int × α):Bool:=if a.2=b.2 then decide (a.1<b.1) else lt a.2 b.2
def QO[DecidableEq α]{lt:α->α->Bool}(h:Str lt):Str (il lt):=by
 refine⟨λa=>by simp[il],λa b c h1 h2=>?_,λa b h1 h2=>?_⟩;unfold il at *
 by_cases d:a.2=b.2;grind;rw[if_neg d]at h1;by_cases e2:b.2=c.2;simp_all;rw[if_neg e2]at h2;have:=h.tr _ _ _ h1 h2;by_cases f:a.2=c.2;rw[f,h.irr]at this;cases this;simp_all;unfold il at *
 by_cases d:a.2=b.2;grind;rw[if_neg d]at h1;rw[if_neg (λe=>d e.symm)]at h2;exact absurd (h.tot _ _ h1 h2) d
abbrev zQ(α:Type):=List (Int × α)
def zK[Inhabited α](l:zQ α)(i:Nat):Int × α:=l.getD i default
def swp[Inhabited α](l:zQ α)(i j:Nat):zQ α:=(l.set i (zK l j)).set j (zK l i)
theorem Z2[Inhabited α](l:zQ α)(i j:Nat):(swp l i j).length=l.length:=by simp[swp]
def Im[Inhabited α](m:zQ α)(a b:Nat)(x:Int × α)(c:a<m.length):zK (m.set a x) b=if b=a then x else zK m b:=by grind[zK]
def VD[Inhabited α](l:zQ α)(i j k:Nat)(hi:i<l.length)(a:j<l.length):zK (swp l i j) k=if k=j then zK l i else if k=i then zK l j else zK l k:=by simp_all[swp,Im]
def bA[Inhabited α](l:zQ α)(i j:Nat)(hi:i<l.length)(a:j<l.length):(swp l i j).Perm l:=by have h:=Array.swap_perm (xs:=l.toArray) (i:=i) (j:=j) (by simpa using hi) (by simpa using a);grind[Array.perm_iff_toList_perm,swp,zK]
variable [DecidableEq α] [Inhabited α]
def yo(k:Nat):Nat:=(k-1)/2
def Yr(lt:α->α->Bool)(l:zQ α)(n:Nat):Prop:=∀k,0<k->k<n->il lt (zK l k) (zK l (yo k))=false
def uh(lt:α->α->Bool):Nat->zQ α->Nat->zQ α
 |0,l,_=>l
 |f+1,l,j=>if yo j=j\/il lt (zK l j) (zK l (yo j))=false then l else uh lt f (swp l (yo j) j) (yo j)
def xv(lt:α->α->Bool)(l:zQ α)(i n:Nat):Nat:=if 2*i+2<n/\il lt (zK l (2*i+2)) (zK l (2*i+1))=true then 2*i+2 else 2*i+1
def qQ(lt:α->α->Bool):Nat->zQ α->Nat->Nat->zQ α × Nat
 |0,l,i,_=>(l,i)
 |f+1,l,i,n =>
  if n<=2*i+1 then (l,i)
  else if il lt (zK l (xv lt l i n)) (zK l i)=false then (l,i)
  else qQ lt f (swp l i (xv lt l i n)) (xv lt l i n) n
def ZA{k:Nat}(h:0<k):yo k<k:=by unfold yo;omega
variable {lt:α->α->Bool}
theorem VE{β:Type}[DecidableEq β]{lt:β->β->Bool}(h:Str lt){a b c:Int × β}(h1:il lt a b=false)(h2:il lt b c=false):il lt a c=false:=by
 have s:=QO h;cases d:il lt a c with
 |false=>rfl
 |true =>
 cases hb:il lt c b with
 |true=>have:=s.tr _ _ _ d hb;simp_all
 |false=>have:=s.tot _ _ hb h2;simp_all
theorem bB{β:Type}[DecidableEq β]{lt:β->β->Bool}(h:Str lt){a b:Int × β}(h1:il lt a b=true):il lt b a=false:=by
 have s:=QO h;cases c:il lt b a with
 |false=>rfl
 |true=>have:=s.tr _ _ _ h1 c;rw[s.irr]at this;cases this
structure UpInv (lt:α->α->Bool) (l:zQ α) (n j:Nat):Prop where
 rest:∀k,0<k->k<n->k≠j->il lt (zK l k) (zK l (yo k))=false
 kids:∀k,0<k->k<n->yo k=j->0<j->il lt (zK l k) (zK l (yo j))=false
def lT(h:Str lt):∀(f:Nat) (l:zQ α) (n j:Nat),n<=l.length->j<n->j<f->UpInv lt l n j->Yr lt (uh lt f l j) n/\(uh lt f l j).Perm l/\(uh lt f l j).length=l.length/\∀k,n<=k->zK (uh lt f l j) k=zK l k:=by
 intro f;induction f with
 |zero=>omega
 |succ f v =>
 intro l n j hn hj hf b;unfold uh;split;rename_i hc;refine⟨λk c a=>?_,.refl _,rfl,λ_ _=>rfl⟩;by_cases g:k=j;subst g;obtain hc|hc:=hc;have:=ZA c;omega;omega;exact b.rest k c a g;rename_i hc;have r:yo j≠j:=λe=>hc (.inl e);have w:il lt (zK l j) (zK l (yo j))=true:=by
  cases hq:il lt (zK l j) (zK l (yo j)) with
  |true=>rfl
  |false=>simp_all
 have i:0<j:=by obtain e|e:=Ch j;subst e;exact absurd rfl r;exact e
 have hp:=ZA i;have m:yo j<l.length:=EA;have o:j<l.length:=EA;have d:=λk=>VD l (yo j) j k m o;have:=v (swp l (yo j) j) n (yo j) (by simp_all[Z2]) EA EA ⟨λk c a p=>?_,λk c a p q=>?_⟩;obtain⟨x,y,z,q4⟩:=this;refine⟨x,y.trans (bA l _ _ m o),z.trans (Z2 _ _ _),λk c=>?_⟩;rw[q4 k c,d k,if_neg EA,if_neg EA];rw[d k,d (yo k)];by_cases k1:k=j;simp_all[bB];rw[if_neg k1,if_neg p];by_cases s:yo k=j;rw[if_pos s];exact b.kids k c a s i;rw[if_neg s];by_cases t:yo k=yo j;rw[if_pos t];have:=b.rest k c a k1;grind[VE,bB];rw[if_neg t];exact b.rest k c a k1;have a0:=ZA q;rw[d k,d (yo (yo j)),if_neg (show yo (yo j)≠j by omega),if_neg (show yo (yo j)≠yo j by omega)];have u:=b.rest (yo j) q EA EA;by_cases k1:k=j;simp_all;rw[if_neg k1,if_neg (by have:=ZA c;omega)];have:=b.rest k c a k1;grind[VE]
structure DownInv (lt:α->α->Bool) (l:zQ α) (n i:Nat):Prop where
 rest:∀k,0<k->k<n->yo k≠i->k≠i->il lt (zK l k) (zK l (yo k))=false
 kids:∀k,0<k->k<n->yo k=i->0<i->il lt (zK l k) (zK l (yo i))=false
def lU(h:Str lt)(l:zQ α)(i n:Nat)(hi:2*i+1<n):yo (xv lt l i n)=i/\xv lt l i n<n/\0<xv lt l i n/\i<xv lt l i n/\∀k,0<k->k<n->yo k=i->il lt (zK l k) (zK l (xv lt l i n))=false:=by
 have s:=QO h;unfold xv;split;rename_i hc;refine⟨by unfold yo;omega,hc.1,by omega,by omega,λk c a b=>?_⟩;have:k=2*i+1\/k=2*i+2:=by unfold yo at b;omega
 obtain rfl|rfl:=this;exact bB h hc.2;exact s.irr _;grind[yo,il]
def lV(h:Str lt):∀(f:Nat) (l:zQ α) (n i:Nat),n<=l.length->i<n->n<=f+i->DownInv lt l n i ->
  (qQ lt f l i n).1.Perm l/\(qQ lt f l i n).1.length=l.length/\(∀k,n<=k->zK (qQ lt f l i n).1 k=zK l k)/\i<=(qQ lt f l i n).2/\(qQ lt f l i n).2<n /\
  (i<(qQ lt f l i n).2->Yr lt (qQ lt f l i n).1 n) /\
  ((qQ lt f l i n).2=i->(qQ lt f l i n).1=l/\∀k,0<k->k<n->k≠i->il lt (zK l k) (zK l (yo k))=false):=by
 intro f;induction f with
 |zero=>omega
 |succ f y =>
 intro l n i hn hi hf c;have d:(∀k,0<k->k<n->yo k=i->il lt (zK l k) (zK l i)=false)->∀k,0<k->k<n->k≠i->il lt (zK l k) (zK l (yo k))=false:=by intro x k k0 b z;by_cases e:yo k=i;simp_all;exact c.rest k k0 b e z
 unfold qQ;split;rename_i s;refine⟨.refl _,rfl,λ_ _=>rfl,Af _,hi,λg=>by omega,λ_=>⟨rfl,d λk k0 b e=>?_⟩⟩;unfold yo at e;omega;rename_i s;obtain⟨c1,c2,c3,c4,c5⟩:=lU h l i n EA;split;rename_i hc;exact⟨.refl _,rfl,λ_ _=>rfl,Af _,hi,λg=>by omega,λ_=>⟨rfl,d λk k0 b e=>VE h (c5 k k0 b e) hc⟩⟩;rename_i hc;have t:il lt (zK l (xv lt l i n)) (zK l i)=true:=by
  cases hq:il lt (zK l (xv lt l i n)) (zK l i) with
  |true=>rfl
  |false=>simp_all
 generalize hj:xv lt l i n=j at *;have m:i<l.length:=EA;have o:j<l.length:=EA;have a:=λk=>VD l i j k m o;have p:DownInv lt (swp l i j) n j:=by refine⟨λk k0 b u q=>?_,λk k0 b u j0=>?_⟩;rw[a k,a (yo k),if_neg q,if_neg u];by_cases k1:k=i;subst k1;rw[if_pos rfl];have v:=ZA k0;rw[if_neg EA];exact c.kids j c3 c2 c1 k0;rw[if_neg k1];by_cases r:yo k=i;rw[if_pos r];exact c5 k k0 b r;rw[if_neg r];exact c.rest k k0 b r k1;rw[a k,a (yo j),c1,if_neg (show i≠j by omega),if_pos rfl];have v:=ZA k0;rw[if_neg EA,if_neg EA];have:=c.rest k k0 b EA EA;rw[u]at this;omega
 obtain⟨q1,q2,q3,q4,q5,q6,q7⟩:=y (swp l i j) n j (by simp_all[Z2]) c2 EA p;refine⟨q1.trans (bA l _ _ m o),q2.trans (Z2 _ _ _),λk x=>by rw[q3 k x,a k,if_neg EA,if_neg EA],by omega,q5,λg=>?_,λhe=>by omega⟩;by_cases w:j<(qQ lt f (swp l i j) j n).2;exact q6 w;obtain⟨r1,r2⟩:=q7 EA;rw[r1];intro k k0 b;by_cases q:k=j;subst q;rw[a k,a (yo k),c1,if_pos rfl,if_neg (show i≠k by omega),if_pos rfl];exact bB h t;exact r2 k k0 b q
theorem Io:∀(f a:Nat) (l:zQ α) (j:Nat),j<f->j<a->uh lt f l j=uh lt a l j:=by
 intro f;induction f with
 |zero=>omega
 |succ f b =>
 intro a l j h1 h2;cases a<;>grind[uh,yo]
theorem Ip(l:zQ α)(i n:Nat):i<xv lt l i n:=by grind[xv]
theorem Iq:∀(f a:Nat) (l:zQ α) (i n:Nat),n<=f+i->n<=a+i->qQ lt f l i n=qQ lt a l i n:=by
 intro f;induction f with
 |zero =>
 intro a l i n h1 h2;cases a<;>grind[qQ]
 |succ f b =>
 intro a l i n h1 h2;cases a<;>grind[qQ,Ip]
end
end Go.Proofs.YtdjbbndbalhekaaGreatDoor.Hp
namespace Go.Proofs.YtdjbbndbalhekaaGreatDoor.Pv
open Go
inductive PV where
 |junk
 |sc (v:Value)
 |agg (cs:List PV)
 |tup (vs:List PV)
 |lst (n:Nat) (cs:List PV)
 |ip (cs:List PV)
 |ptr (o ver off:Nat)
 |sl (o ver sz off n:Nat)
 |fn (f:Fn) (first cap:List PV)
 |ifc (t:TypeId) (v:PV)
 |mp (o ver:Nat)
 |nl (low sz n:Nat) (cs:List PV)
inductive Ob where
 |dead
 |cells (ver:Nat) (e:TypeId) (cs:List PV)
 |map (ver:Nat) (es:List (Value × PV))
abbrev Store:=Nat->Ob
def Ob.ver:Ob->Option Nat
 |.dead=>none
 |.cells v _ _=>some v
 |.map v _=>some v
def Store.set(S:Store)(o:Nat)(x:Ob):Store:=λi=>if i=o then x else S i
theorem q11(S:Store)(o:Nat)(x:Ob):S.set o x o=x:=by simp[Store.set]
theorem q10(S:Store)(o i:Nat)(x:Ob)(h:i≠o):S.set o x i=S i:=by simp_all[Store.set]
theorem Store.set_set(S:Store)(o:Nat)(x y:Ob):(S.set o x).set o y=S.set o y:=by grind[Store.set]
theorem Store.set_comm(S:Store)(o i:Nat)(x y:Ob)(h:i≠o):(S.set o x).set i y=(S.set i y).set o x:=by grind[Store.set]
structure Ctx where
 loc:Nat->Option (Nat × Nat)
 next:Nat
 clock:Nat
def Ctx.M(C:Ctx)(S:Store)(b:Nat):Prop:=∃o k,S o≠.dead/\C.loc o=some (b,k)
def xx:Nat:=9223372036854775807
inductive Rel (C:Ctx) (S:Store) (w:World):PV->Value->Prop where
 |junk (v:Value):Rel C S w .junk v
 |sc (v:Value):Rel C S w (.sc v) v
 |agg {cs:List PV} {vs:Array Value} (hl:cs.length=vs.size) (h1:∀(i:Nat) (v:Value),vs[i]?=some v->v.oneCell'=true) (h:∀(i:Nat) (c:PV) (v:Value),cs[i]?=some c->vs[i]?=some v->Rel C S w c v):Rel C S w (.agg cs) (.agg vs)
 |tup {cs:List PV} {vs:Array Value} (hl:cs.length=vs.size) (h:∀(i:Nat) (c:PV) (v:Value),cs[i]?=some c->vs[i]?=some v->Rel C S w c v):Rel C S w (.tup cs) (.tuple vs)
 |lst0 {cap:Nat} {a:Option Addr}:Rel C S w (.lst 0 []) (.slice a 0 cap)
 |lst1 {n cap b o:Nat} {cs:List PV} {c:Array Value} {e:TypeId} {fz:Nat × Nat} (hn:n<=cap) (hm:n<=xx) (hb:w.heap[b]?=some (.cells c e fz)) (hM:¬C.M S b)
   (hs:cs≠[]->o+cs.length<=c.size) (h1:∀(i:Nat) (v:Value),i<cs.length->c[o+i]?=some v->v.oneCell'=true) (h:∀(i:Nat) (p:PV) (v:Value),cs[i]?=some p->c[o+i]?=some v->Rel C S w p v):Rel C S w (.lst n cs) (.slice (some ⟨b,o,none⟩) n cap)
 |ip {b o:Nat} {cs:List PV} {c:Array Value} {e:TypeId} {fz:Nat × Nat} (hb:w.heap[b]?=some (.cells c e fz)) (hM:¬C.M S b)
   (hs:cs≠[]->o+cs.length<=c.size) (h1:∀(i:Nat) (v:Value),i<cs.length->c[o+i]?=some v->v.oneCell'=true) (h:∀(i:Nat) (p:PV) (v:Value),cs[i]?=some p->c[o+i]?=some v->Rel C S w p v):Rel C S w (.ip cs) (.pointer (some ⟨b,o,none⟩))
 |ptr {o ver off:Nat} {v:Value} (h1:∃a,v=.pointer (some a)) (ho:o<C.next/\ver<C.clock) (h:∀v0,(S o).ver=some v0->ver<=v0/\(ver=v0->∃b k,C.loc o=some (b,k)/\v=.pointer (some ⟨b,off,none⟩))):Rel C S w (.ptr o ver off) v
 |sl {o ver sz off n:Nat} {v:Value} (h1:∃a cap,v=.slice a n cap/\n<=cap/\n<=xx/\cap<=maxLen/\(n≠0->∃b f,a=some ⟨b,f,none⟩)) (ho:o<C.next/\ver<C.clock) (h:∀v0,(S o).ver=some v0->ver<=v0/\(ver=v0 ->
   (C.loc o=none/\n=0/\off=0/\v=.slice none 0 0)\/∃b k a cap,C.loc o=some (b,k)/\v=.slice a n cap/\(off=0->a=some ⟨b,0,none⟩/\cap*sz=k)/\(n≠0->a=some ⟨b,off,none⟩))) :
   Rel C S w (.sl o ver sz off n) v
 |nl0 {low sz cap:Nat} {a:Option Addr}:Rel C S w (.nl low sz 0 []) (.slice a 0 cap)
 |nl {low sz n cap b:Nat} {cs:List PV} {c:Array Value} {e:TypeId} (hn:0<n/\n<=cap/\n<=xx/\cap<=maxLen) (hb:w.heap[b]?=some (.cells c e (0,0))) (hM:¬C.M S b) (hl:low<=b/\cs.length=n*sz/\cap*sz=c.size)
   (h1:∀(i:Nat) (v:Value),i<cs.length->c[i]?=some v->v.oneCell'=true) (h:∀(i:Nat) (p:PV) (v:Value),cs[i]?=some p->c[i]?=some v->Rel C S w p v):Rel C S w (.nl low sz n cs) (.slice (some ⟨b,0,none⟩) n cap)
 |fn {f:Fn} {fs cs:List PV} {fv cv:Array Value} (hf:fs.length=fv.size) (hc:cs.length=cv.size) (h:∀(i:Nat) (c:PV) (v:Value),fs[i]?=some c->fv[i]?=some v->Rel C S w c v)
   (h':∀(i:Nat) (c:PV) (v:Value),cs[i]?=some c->cv[i]?=some v->Rel C S w c v):Rel C S w (.fn f fs cs) (.func f fv cv)
 |ifc {t:TypeId} {p:PV} {v:Value} (h:Rel C S w p v):Rel C S w (.ifc t p) (.iface t v)
 |mp {o ver:Nat} {v:Value} (h1:∃b,v=.map (some b)) (ho:o<C.next/\ver<C.clock) (h:∀v0,(S o).ver=some v0->ver<=v0/\(ver=v0->∃b k,C.loc o=some (b,k)/\v=.map (some b))):Rel C S w (.mp o ver) v
structure Sim (C:Ctx) (S:Store) (w:World):Prop where
 lt:∀o,S o≠.dead->o<C.next
 clk:∀o v,(S o).ver=some v->v<C.clock
 O:∀o o' b k k',S o≠.dead->S o'≠.dead->C.loc o=some (b,k)->C.loc o'=some (b,k')->o=o'
 cells:∀o ver e cs,S o=.cells ver e cs->(C.loc o=none/\cs=[])\/∃(b k:Nat) (c:Array Value),C.loc o=some (b,k)/\w.heap[b]?=some (.cells c e (0,0))/\c.size=k/\cs.length<=k /\
  (∀(i:Nat) (v:Value),i<cs.length->c[i]?=some v->v.oneCell'=true)/\∀(i:Nat) (p:PV) (v:Value),cs[i]?=some p->c[i]?=some v->Rel C S w p v
 maps:∀o ver es,S o=.map ver es->∃(b k:Nat) (ms:Array MapEntry) (cl:Nat),C.loc o=some (b,k)/\w.heap[b]?=some (.map ms cl)/\es.length=ms.size /\
  (∀(i:Nat) (e:Value × PV) (m:MapEntry),es[i]?=some e->ms[i]?=some m->m.key=e.1/\Rel C S w e.2 m.val)
structure Step (C:Ctx) (S:Store) (w:World) (C':Ctx) (S':Store) (w':World):Prop where
 os:w'.os=w.os
 tape:w'.tape=w.tape/\w.drawn<=w'.drawn
 output:w'.output=w.output
 size:w.heap.size<=w'.heap.size
 next:C.next<=C'.next
 clock:C.clock<=C'.clock
 blocks:∀b,b<w.heap.size->¬C.M S b->w'.heap[b]?=w.heap[b]?/\¬C'.M S' b
 vers:∀o v1,(S' o).ver=some v1->(C.next<=o\/C.clock<=v1)\/∃v0,(S o).ver=some v0/\v0<=v1/\(v0=v1->C'.loc o=C.loc o)
variable {w:World}{b:Nat}
def qX{o:Obj}(h:w.heap[b]?=some o):b<w.heap.size:=(Bn.1 h).1
theorem Step.refl(C:Ctx)(S:Store)(w:World):Step C S w C S w :=
 ⟨rfl,⟨rfl,Af _⟩,rfl,Af _,Af _,Af _,λ_ _ h=>⟨rfl,h⟩,λ_ v1 h=>.inr ⟨v1,h,Af _,λ_=>rfl⟩⟩
variable {C C':Ctx}{S S':Store}{w':World}
theorem Step.trans{C'':Ctx}{S'':Store}{w'':World}(h:Step C S w C' S' w')(k:Step C' S' w' C'' S'' w''):Step C S w C'' S'' w'' :=
 ⟨k.os.trans h.os,⟨k.tape.1.trans h.tape.1,AF h.tape.2 k.tape.2⟩,k.output.trans h.output,AF h.size k.size,AF h.next k.next,AF h.clock k.clock,
  λb hb hM=>by
   obtain⟨h1,h2⟩:=h.blocks b hb hM;obtain⟨k1,d⟩:=k.blocks b (Bw hb h.size) h2;simp_all,
  λo v1 hv=>by have hn:=h.next;have e:=h.clock;obtain q|⟨v0,a,b,c⟩:=k.vers o v1 hv;omega;obtain q|⟨u,a',b',f⟩:=h.vers o v0 a<;>grind⟩
variable {p:PV}
theorem Rel.mono(st:Step C S w C' S' w'){v:Value}(h:Rel C S w p v):Rel C' S' w' p v:=by
 induction h with
 |junk v=>exact .junk v
 |sc v=>exact .sc v
 |agg hl h1 _ d=>exact .agg hl h1 d
 |tup hl _ d=>exact .tup hl d
 |lst0=>exact .lst0
 |lst1 hn hm hb hM hs h1 _ d =>
 obtain⟨k1,e⟩:=st.blocks _ (qX hb) hM;exact .lst1 hn hm (k1.trans hb) e hs h1 d
 |ip hb hM hs h1 _ d =>
 obtain⟨k1,e⟩:=st.blocks _ (qX hb) hM;exact .ip (k1.trans hb) e hs h1 d
 |nl0=>exact .nl0
 |nl hn hb hM hl h1 _ d =>
 obtain⟨k1,e⟩:=st.blocks _ (qX hb) hM;exact .nl hn (k1.trans hb) e hl h1 d
 |ptr h1 ho h =>
 refine .ptr h1 ⟨Bw ho.1 st.next,Bw ho.2 st.clock⟩ λv1 hv=>?_;obtain q|⟨v0,a,b,c⟩:=st.vers _ v1 hv<;>grind
 |sl h1 ho h =>
 refine .sl h1 ⟨Bw ho.1 st.next,Bw ho.2 st.clock⟩ λv1 hv=>?_;obtain q|⟨v0,a,b,c⟩:=st.vers _ v1 hv<;>grind
 |fn hf hc _ _ d f=>exact .fn hf hc d f
 |ifc _ d=>exact .ifc d
 |mp h1 ho h =>
 refine .mp h1 ⟨Bw ho.1 st.next,Bw ho.2 st.clock⟩ λv1 hv=>?_;obtain q|⟨v0,a,b,c⟩:=st.vers _ v1 hv<;>grind
theorem Sim.M_lt(h:Sim C S w)(hM:C.M S b):b<w.heap.size:=by
 obtain⟨o,k,ho,hl⟩:=hM;cases hs:S o with
 |dead=>simp_all
 |cells ver e cs =>
 obtain⟨hn,_⟩|⟨b',k',c,a,hb,_⟩:=h.cells o ver e cs hs<;>grind
 |map ver es =>
 obtain⟨b',k',ms,cl,a,hb,_⟩:=h.maps o _ es hs;grind
theorem Sim.still(h:Sim C S w)(ho:w'.os=w.os)(g:w'.tape=w.tape/\w.drawn<=w'.drawn)(j:w'.output=w.output)(l:w.heap.size<=w'.heap.size)
  (hb:∀b,b<w.heap.size->w'.heap[b]?=w.heap[b]?):Sim C S w'/\Step C S w C S w':=by
 have st:Step C S w C S w':=⟨ho,g,j,l,Af _,Af _,λb d hM=>⟨hb b d,hM⟩,λ_ v1 h=>.inr ⟨v1,h,Af _,λ_=>rfl⟩⟩;refine⟨⟨h.lt,h.clk,h.O,?_,?_⟩,st⟩;intro o ver e cs hs;obtain hn|⟨b,k,c,h1,h2,h3,a,n,q⟩:=h.cells o ver e cs hs;exact .inl hn;exact .inr ⟨b,k,c,h1,(hb b (qX h2)).trans h2,h3,a,n,λi p v r hv=>(q i p v r hv).mono st⟩;intro o ver es hs;obtain⟨b,k,ms,cl,h1,h2,h3,a⟩:=h.maps o ver es hs;exact⟨b,k,ms,cl,h1,(hb b (qX h2)).trans h2,h3,λi e m f hm=>⟨(a i e m f hm).1,(a i e m f hm).2.mono st⟩⟩
theorem Sim.drew(h:Sim C S w):Sim C S w.drew/\Step C S w C S w.drew :=
 h.still rfl ⟨rfl,Db _⟩ rfl (Af _) (λ_ _=>rfl)
def Z3(w:World)(o:Obj)(b:Nat)(h:b<w.heap.size):(w.alloc o).heap[b]?=w.heap[b]?:=by show (w.heap.push o)[b]?=_;grind
theorem QP(w:World)(o:Obj):(w.alloc o).heap[w.heap.size]?=some o:=by show (w.heap.push o)[w.heap.size]?=_;simp
theorem Sim.alloc(h:Sim C S w)(o:Obj):Sim C S (w.alloc o)/\Step C S w C S (w.alloc o)/\¬C.M S w.heap.size:=by obtain⟨h1,h2⟩:=h.still (w':=w.alloc o) rfl ⟨rfl,Af _⟩ rfl EB (λb hb=>Z3 w o b hb);exact⟨h1,h2,λhM=>by have:=h.M_lt hM;omega⟩
theorem Sim.free(h:Sim C S w):S C.next=.dead:=by
 cases hs:S C.next with
 |dead=>rfl
 |cells v e cs=>have:=h.lt C.next (by rw[hs];simp);omega
 |map v es=>have:=h.lt C.next (by rw[hs];simp);omega
def Ctx.put(C:Ctx)(o ver:Nat)(x:Option (Nat × Nat)):Ctx:={ loc:=λi=>if i=o then x else C.loc i,next:=max C.next (o+1),clock:=max C.clock (ver+1) }
structure Fresh (C:Ctx) (S:Store) (o ver:Nat):Prop where
 dead:S o=.dead
 new:C.next<=o\/C.clock<=ver
variable {o:Nat}
def Sim.step_new{ver:Nat}(hf:Fresh C S o ver){x:Ob}(hx:x.ver=some ver)(l:Option (Nat × Nat))(ho:w'.os=w.os)(f:w'.tape=w.tape/\w.drawn<=w'.drawn)(g:w'.output=w.output)
  (h:w.heap.size<=w'.heap.size) (hb:∀b,b<w.heap.size->w'.heap[b]?=w.heap[b]?) (hl:∀b k,l=some (b,k)->w.heap.size<=b):Step C S w (C.put o ver l) (S.set o x) w':=by
 have a:∀i,i≠o->(C.put o ver l).loc i=C.loc i:=λi hi=>by simp_all[Ctx.put]
 have d:(C.put o ver l).loc o=l:=by simp[Ctx.put]
 refine⟨ho,f,g,h,by grind[Ctx.put],by grind[Ctx.put],λb e hM=>⟨hb b e,?_⟩,?_⟩;rintro⟨i,k,hi,c⟩;by_cases hc:i=o;grind;rw[a i hc]at c;rw[q10 _ _ _ _ hc]at hi;exact hM ⟨i,k,hi,c⟩;intro i v1 hv;by_cases hc:i=o;subst hc;rw[q11,hx]at hv;cases hv;exact .inl hf.new;simp_all[q10]
theorem Sim.object'(h:Sim C S w){ver:Nat}(hf:Fresh C S o ver)(e:TypeId)(c:Array Value)(cs:List PV)(hl:cs.length<=c.size)
  (h1:∀(i:Nat) (v:Value),i<cs.length->c[i]?=some v->v.oneCell'=true)
  (s:∀(i:Nat) (p:PV) (v:Value),cs[i]?=some p->c[i]?=some v->Rel C S w p v) :
  Sim (C.put o ver (some (w.heap.size,c.size))) (S.set o (.cells ver e cs)) (w.alloc (.cells c e)) /\
  Step C S w (C.put o ver (some (w.heap.size,c.size))) (S.set o (.cells ver e cs)) (w.alloc (.cells c e)):=by
 have a:∀i,i≠o->(C.put o ver (some (w.heap.size,c.size))).loc i=C.loc i:=λi hi=>by simp_all[Ctx.put]
 have d:(C.put o ver (some (w.heap.size,c.size))).loc o=some (w.heap.size,c.size):=by simp[Ctx.put]
 have st:Step C S w (C.put o ver (some (w.heap.size,c.size))) (S.set o (.cells ver e cs)) (w.alloc (.cells c e)) :=
  Sim.step_new hf rfl _ rfl ⟨rfl,Af _⟩ rfl EB (λb hb=>Z3 w _ b hb) (λb k z=>by simp_all)
 refine⟨⟨?_,?_,?_,?_,?_⟩,st⟩;intro i hi;by_cases hc:i=o;grind[Ctx.put];rw[q10 _ _ _ _ hc]at hi;have:=h.lt i hi;grind[Ctx.put];intro i v hv;by_cases hc:i=o;subst hc;rw[q11]at hv;cases hv;grind[Ctx.put];rw[q10 _ _ _ _ hc]at hv;have:=h.clk i v hv;grind[Ctx.put];intro i l b k k' ho j hl f;by_cases hc:i=o<;>by_cases g:l=o;omega;subst hc;rw[d]at hl;rw[a l g]at f;rw[q10 _ _ _ _ g]at j;have:=h.M_lt ⟨l,k',j,f⟩;simp_all;subst g;rw[d]at f;rw[a i hc]at hl;rw[q10 _ _ _ _ hc]at ho;have:=h.M_lt ⟨i,k,ho,hl⟩;simp_all;rw[a i hc]at hl;rw[a l g]at f;rw[q10 _ _ _ _ hc]at ho;rw[q10 _ _ _ _ g]at j;exact h.O i l b k k' ho j hl f;intro i ver' t cs' hs;by_cases hc:i=o;subst hc;rw[q11]at hs;cases hs;exact .inr ⟨w.heap.size,c.size,c,d,QP w _,rfl,hl,h1,λi p v q hv=>(s i p v q hv).mono st⟩;rw[q10 _ _ _ _ hc]at hs;obtain hn|⟨b,k,u,g1,n,g3,g4,x,y⟩:=h.cells i ver' t cs' hs;simp_all;exact .inr ⟨b,k,u,(a i hc).trans g1,(Z3 w _ b (qX n)).trans n,g3,g4,x,λi p v q hv=>(y i p v q hv).mono st⟩;intro i ver' es hs;by_cases hc:i=o;simp_all[q11];rw[q10 _ _ _ _ hc]at hs;obtain⟨b,k,ms,cl,g1,n,g3,g4⟩:=h.maps i ver' es hs;exact⟨b,k,ms,cl,(a i hc).trans g1,(Z3 w _ b (qX n)).trans n,g3,λi e m r hm=>⟨(g4 i e m r hm).1,(g4 i e m r hm).2.mono st⟩⟩
theorem Sim.kill(h:Sim C S w)(g:∀o,S' o=S o\/S' o=.dead):Sim C S' w/\Step C S w C S' w:=by
 have a:∀o,S' o≠.dead->S' o=S o:=λo ho=>(g o).resolve_right ho;have hM:∀b,C.M S' b->C.M S b:=λb ⟨o,k,ho,hl⟩=>⟨o,k,by grind,hl⟩;have st:Step C S w C S' w:=by
  refine⟨rfl,⟨rfl,Af _⟩,rfl,Af _,Af _,Af _,λb _ hb=>⟨rfl,λh=>hb (hM b h)⟩,λo v1 hv=>?_⟩;have:S' o≠.dead:=by intro e;rw[e]at hv;cases hv
  rw[a o this]at hv;exact .inr ⟨v1,hv,Af _,λ_=>rfl⟩
 refine⟨⟨λo ho=>h.lt o EI,λo v hv=>h.clk o v (by rw[<-a o (by intro e;rw[e]at hv;cases hv)];exact hv),λo o' b k k' ho j=>h.O o o' b k k' EI EI,?_,?_⟩,st⟩;intro o ver e cs hs;have:=a o (by rw[hs];simp);obtain hn|⟨b,k,c,h1,h2,h3,d,l,n⟩:=h.cells o ver e cs (this ▸ hs);exact .inl hn;exact .inr ⟨b,k,c,h1,h2,h3,d,l,λi p v q hv=>(n i p v q hv).mono st⟩;intro o ver es hs;have:=a o (by rw[hs];simp);obtain⟨b,k,ms,cl,h1,h2,h3,d⟩:=h.maps o ver es (this ▸ hs);exact⟨b,k,ms,cl,h1,h2,h3,λi e m f hm=>⟨(d i e m f hm).1,(d i e m f hm).2.mono st⟩⟩
def Ctx.at(C:Ctx)(o ver:Nat)(l:Option (Nat × Nat)):Ctx:={ loc:=λi=>if i=o then l else C.loc i,next:=C.next,clock:=max C.clock (ver+1) }
variable {e:Nat}{cs:List PV}
theorem Sim.turn(h:Sim C S w){ver:Nat}(hs:S o=.cells ver e cs){ver':Nat}{cs':List PV}{l:Option (Nat × Nat)}
  (a2:ver<=ver') (a1:ver=ver'->l=C.loc o)
  (q:w.grownBy w' ((C.loc o).map (·.1))/\w.drawn<=w'.drawn)
  (hl:(l=none/\cs'=[])\/∃b k c,l=some (b,k)/\(w.heap.size<=b\/(C.loc o).map (·.1)=some b)/\w'.heap[b]?=some (.cells c e (0,0))/\c.size=k/\cs'.length<=k /\
   (∀(i:Nat) (v:Value),i<cs'.length->c[i]?=some v->v.oneCell'=true)/\∀(i:Nat) (p:PV) (v:Value),cs'[i]?=some p->c[i]?=some v->Rel C S w p v) :
  Sim (C.at o ver' l) (S.set o (.cells ver' e cs')) w' /\
  Step C S w (C.at o ver' l) (S.set o (.cells ver' e cs')) w':=by
 have n:S o≠.dead:=by rw[hs];simp
 have a:∀i,i≠o->(C.at o ver' l).loc i=C.loc i:=λi hi=>by simp[Ctx.at,hi]
 have d:(C.at o ver' l).loc o=l:=by simp[Ctx.at]
 have r:∀i b k,i≠o->S i≠.dead->C.loc i=some (b,k)->some b≠(C.loc o).map (·.1):=by
  intro i b k hi s hb g;cases ho:C.loc o with
  |none=>simp_all
  |some x =>
  obtain⟨b',k'⟩:=x;rw[ho]at g;simp only[AR,Option.some.injEq]at g;subst g;exact hi (h.O i o b k k' s n hb ho)
 have st:Step C S w (C.at o ver' l) (S.set o (.cells ver' e cs')) w':=by
  refine⟨q.1.os,⟨q.1.tape,q.2⟩,q.1.output,q.1.size,Af _,by grind[Ctx.at],λb hb hM=>⟨q.1.block b hb ?_,?_⟩,?_⟩
  .intro g;cases ho:C.loc o with
   |none=>simp_all
   |some x =>
   obtain⟨b',k'⟩:=x;rw[ho]at g;simp only[AR,Option.some.injEq]at g;subst g;exact hM ⟨o,k',n,ho⟩
  rintro⟨i,k,s,f⟩;by_cases hi:i=o
  .subst hi;rw[d]at f;obtain⟨h0,_⟩|⟨b2,k2,c,h0,h1,_⟩:=hl;simp_all;rw[h0]at f;cases f;obtain h1|h1:=h1;omega;cases ho:C.loc i with
   |none=>simp_all
   |some x =>
   obtain⟨b',k'⟩:=x;rw[ho]at h1;simp only[AR,Option.some.injEq]at h1;subst h1;exact hM ⟨i,k',n,ho⟩
  rw[a i hi]at f;rw[q10 _ _ _ _ hi]at s;exact hM ⟨i,k,s,f⟩;grind[q11,Ob.ver,q10]
 refine⟨⟨?_,?_,?_,?_,?_⟩,st⟩;intro i hi;by_cases hc:i=o;subst hc;exact h.lt i n;rw[q10 _ _ _ _ hc]at hi;exact h.lt i hi;intro i v hv;by_cases hc:i=o;subst hc;rw[q11]at hv;cases hv;grind[Ctx.at];rw[q10 _ _ _ _ hc]at hv;have:=h.clk i v hv;grind[Ctx.at];have one:∀i b k k',i≠o->S i≠.dead->C.loc i=some (b,k)->l=some (b,k')->False:=by intro i b k k' hi s hb t;obtain⟨h0,_⟩|⟨b2,k2,c,h0,h1,_⟩:=hl;simp_all;rw[h0]at t;cases t;obtain h1|h1:=h1;have:=h.M_lt ⟨i,k,s,hb⟩;omega;grind
 intro i j b k k' hi hj u y;by_cases hc:i=o<;>by_cases z:j=o;omega;grind[q10];grind[q10];rw[a i hc]at u;rw[a j z]at y;rw[q10 _ _ _ _ hc]at hi;rw[q10 _ _ _ _ z]at hj;exact h.O i j b k k' hi hj u y;intro i v' e' ds hi;by_cases hc:i=o;subst hc;rw[q11]at hi;cases hi;obtain⟨h0,h1⟩|⟨b,k,c,h0,_,h2,h3,h4,h5,h6⟩:=hl;simp_all;exact .inr ⟨b,k,c,d.trans h0,h2,h3,h4,h5,λj p v hp hv=>(h6 j p v hp hv).mono st⟩;rw[q10 _ _ _ _ hc]at hi;obtain hn|⟨b,k,c',g1,g2,g3,g4,g5,g6⟩:=h.cells i v' e' ds hi;grind;exact .inr ⟨b,k,c',(a i hc).trans g1,(q.1.block b (qX g2) (r i b k hc (by rw[hi];simp) g1)).trans g2,g3,g4,g5,λj p v hp hv=>(g6 j p v hp hv).mono st⟩;intro i a0 es hi;by_cases hc:i=o;simp_all[q11];rw[q10 _ _ _ _ hc]at hi;obtain⟨b,k,ms,cl,g1,g2,g3,g4⟩:=h.maps i a0 es hi;exact⟨b,k,ms,cl,(a i hc).trans g1,(q.1.block b (qX g2) (r i b k hc (by rw[hi];simp) g1)).trans g2,g3,λj x m g hm=>⟨(g4 j x m g hm).1,(g4 j x m g hm).2.mono st⟩⟩
def Jt(v:Value):PV :=
 match v with
 |.agg cs=>if cs.all (·.oneCell') then .agg (cs.toList.map .sc) else .sc v
 |v=>.sc v
def ev(F:Nat->PV):Operand->PV
 |.tmp t=>F t
 |.const v=>Jt v
 |.global g=>.sc (.pointer (some ⟨g,0,none⟩))
 |.func f=>.fn (.func f) [] []
def vI(F:Nat->PV)(d:Nat)(p:PV):Nat->PV:=λi=>if i=d then p else F i
def yg(F:Nat->PV)(d:Option Nat)(p:PV):Nat->PV :=
 match d with
 |some d=>vI F d p
 |none=>F
def lW(F:Nat->PV)(d:Nat)(p:PV):vI F d p d=p:=by simp[vI]
def lX(F:Nat->PV)(d i:Nat)(p:PV)(h:i≠d):vI F d p i=F i:=by simp[vI,h]
def PV.cells:PV->List PV
 |.agg cs=>cs
 |p=>[p]
def PV.one:PV->Bool
 |.junk|.agg _|.tup _=>false
 |.sc v=>v.oneCell'
 |_=>true
theorem bC(v:Value):Rel C S w (Jt v) v:=by unfold Jt;split;split;rename_i cs h;refine .agg EB ?_ ?_;grind;intro i c v hc hv;simp only[Ai,Array.getElem?_toList,hv,AR,Option.some.injEq]at hc;subst hc;exact .sc v;exact .sc _;exact .sc _
theorem Rel.cells{v:Value}(h:Rel C S w p v)(h1:p.cells.all PV.one=true):
  p.cells.length=v.cells.size/\(∀(i:Nat) (u:Value),v.cells[i]?=some u->u.oneCell'=true)/\∀(i:Nat) (c:PV) (u:Value),p.cells[i]?=some c->v.cells[i]?=some u->Rel C S w c u:=by
 cases h with
 |agg hl h2 l=>exact⟨hl,h2,l⟩
 |junk=>simp_all[PV.cells,PV.one]
 |tup=>simp_all[PV.cells,PV.one]
 |sc v =>
 simp only[PV.cells,PV.one,CZ,List.all_nil,DT]at h1;have hv:v.cells=#[v]:=by cases v<;>first|rfl|cases h1
 rw[hv];refine⟨rfl,?_,?_⟩;grind;intro i c u hc e;obtain _|i:=i;simp[PV.cells]at hc e;subst hc;subst e;exact .sc _;simp at e
 |lst0=>exact⟨rfl,by intro i u e;obtain _|i:=i<;>simp[Value.cells]at e;subst e;rfl,by intro i c u hc e;obtain _|i:=i<;>simp[PV.cells,Value.cells]at hc e;subst hc;subst e;exact .lst0⟩
 |lst1 g j a3 a4 a5 f k=>exact⟨rfl,by intro i u e;obtain _|i:=i<;>simp[Value.cells]at e;subst e;rfl,by intro i c u hc e;obtain _|i:=i<;>simp[PV.cells,Value.cells]at hc e;subst hc;subst e;exact .lst1 g j a3 a4 a5 f k⟩
 |nl0=>exact⟨rfl,by intro i u e;obtain _|i:=i<;>simp[Value.cells]at e;subst e;rfl,by intro i c u hc e;obtain _|i:=i<;>simp[PV.cells,Value.cells]at hc e;subst hc;subst e;exact .nl0⟩
 |nl g j a3 a4 a5 f=>exact⟨rfl,by intro i u e;obtain _|i:=i<;>simp[Value.cells]at e;subst e;rfl,by intro i c u hc e;obtain _|i:=i<;>simp[PV.cells,Value.cells]at hc e;subst hc;subst e;exact .nl g j a3 a4 a5 f⟩
 |ip a3 a4 a5 f k=>exact⟨rfl,by intro i u e;obtain _|i:=i<;>simp[Value.cells]at e;subst e;rfl,by intro i c u hc e;obtain _|i:=i<;>simp[PV.cells,Value.cells]at hc e;subst hc;subst e;exact .ip a3 a4 a5 f k⟩
 |ptr a b c =>
 obtain⟨x,rfl⟩:=a;exact⟨rfl,by intro i u e;obtain _|i:=i<;>simp[Value.cells]at e;subst e;rfl,by intro i c u hc e;obtain _|i:=i<;>simp[PV.cells,Value.cells]at hc e;subst hc;subst e;exact .ptr ⟨_,rfl⟩ b c⟩
 |sl a b c =>
 obtain⟨x,y,rfl,z⟩:=a;exact⟨rfl,by intro i u e;obtain _|i:=i<;>simp[Value.cells]at e;subst e;rfl,by intro i c u hc e;obtain _|i:=i<;>simp[PV.cells,Value.cells]at hc e;subst hc;subst e;exact .sl ⟨_,_,rfl,z⟩ b c⟩
 |fn a b c d=>exact⟨rfl,by intro i u e;obtain _|i:=i<;>simp[Value.cells]at e;subst e;rfl,by intro i c u hc e;obtain _|i:=i<;>simp[PV.cells,Value.cells]at hc e;subst hc;subst e;exact .fn a b ‹_› d⟩
 |ifc a=>exact⟨rfl,by intro i u e;obtain _|i:=i<;>simp[Value.cells]at e;subst e;rfl,by intro i c u hc e;obtain _|i:=i<;>simp[PV.cells,Value.cells]at hc e;subst hc;subst e;exact .ifc a⟩
 |mp a b c =>
 obtain⟨x,rfl⟩:=a;exact⟨rfl,by intro i u e;obtain _|i:=i<;>simp[Value.cells]at e;subst e;rfl,by intro i c u hc e;obtain _|i:=i<;>simp[PV.cells,Value.cells]at hc e;subst hc;subst e;exact .mp ⟨_,rfl⟩ b c⟩
def Wn(d:Option TypeDesc):Bool :=
 match d with
 |some (.struct _)=>true
 |some (.array _ _)=>true
 |_=>false
def Z4(P:Program)(t:TypeId)(cs:List PV):Option PV :=
 if Wn (P.underlying t) then (if P.cellsOf t<=cs.length then some (.agg (cs.take (P.cellsOf t))) else none) else cs.head?
def bD(op:BinOp)(k:IntKind)(a:Int)(k':IntKind)(b:Int):Option Value :=
 match op with
 |.shl=>if b<0 then none else some (.int k (k.wrap (a*2^(min b.toNat k.bits))))
 |.shr=>if b<0 then none else some (.int k (a.fdiv (2^(min b.toNat k.bits))))
 |.add=>if k=k' then some (.int k (k.wrap (a+b))) else none
 |.sub=>if k=k' then some (.int k (k.wrap (a-b))) else none
 |.mul=>if k=k' then some (.int k (k.wrap (a*b))) else none
 |.quo=>if k=k'/\b≠0 then some (.int k (k.wrap (a.tdiv b))) else none
 |.rem=>if k=k'/\b≠0 then some (.int k (a.tmod b)) else none
 |.and=>if k=k' then some (.int k (bits .and k a b)) else none
 |.or=>if k=k' then some (.int k (bits .or k a b)) else none
 |.xor=>if k=k' then some (.int k (bits .xor k a b)) else none
 |.andNot=>if k=k' then some (.int k (bits .andNot k a b)) else none
 |.eql=>if k=k' then some (.bool (a==b)) else none
 |.neq=>if k=k' then some (.bool (a != b)) else none
 |.lss=>if k=k' then some (.bool (decide (a<b))) else none
 |.leq=>if k=k' then some (.bool (decide (a<=b))) else none
 |.gtr=>if k=k' then some (.bool (decide (a > b))) else none
 |.geq=>if k=k' then some (.bool (decide (a>=b))) else none
variable {P:Program}{op:BinOp}
def Ir{k k':IntKind}{a b:Int}{v:Value}(t:TypeId)(h:bD op k a k' b=some v):
  (binOp op t (.int k a) (.int k' b)).run P w=.ok v w:=by
 cases op<;>simp only[bD,Dm,Option.ite_none_left_eq_some,Option.some.injEq]at h;case shl=>obtain⟨h0,rfl⟩:=h;simp[binOp,Op.shift,h0]
 case shr=>obtain⟨h0,rfl⟩:=h;simp[binOp,Op.shift,h0]
 case quo=>obtain⟨⟨rfl,h0⟩,rfl⟩:=h;simp_all[binOp,Op.intDiv]
 case rem=>obtain⟨⟨rfl,h0⟩,rfl⟩:=h;simp_all[binOp,Op.intDiv]
 all_goals
  obtain⟨rfl,rfl⟩:=h;simp[binOp,Op.intArith,Op.intCmp,Op.intBits,bits]
def qD(op:BinOp)(x y:ByteArray):Option Value :=
 match op with
 |.add=>if x.size+y.size<=9223372036854775807 then some (.string (x++y)) else none
 |.eql=>some (.bool (x.toList==y.toList))
 |.neq=>some (.bool (!(x.toList==y.toList)))
 |.lss=>some (.bool (Op.bytesLess x.toList y.toList))
 |.leq=>some (.bool (Op.bytesLess x.toList y.toList||x.toList==y.toList))
 |.gtr=>some (.bool (!(Op.bytesLess x.toList y.toList||x.toList==y.toList)))
 |.geq=>some (.bool (!(Op.bytesLess x.toList y.toList)))
 |_=>none
def Is{x y:ByteArray}{v:Value}(t:TypeId)(h:qD op x y=some v):
  (binOp op t (.string x) (.string y)).run P w=.ok v w:=by
 cases op<;>simp only[qD,Dm,Option.some.injEq,reduceCtorEq]at h;case add =>
  obtain⟨h0,rfl⟩:=h;simp only[binOp,Op.stringOp,IntKind.max_i64];rw[if_neg EA];rfl
 all_goals simp_all[binOp,Op.stringOp]
variable {t:TypeId}
def lY(hb:P.underlying t=some .bool)(w:World)(a b:Bool):(Op.equal t (.bool a) (.bool b)).run P w=.ok (a==b) w:=by unfold Op.equal Op.maxDepth;show (Op.equalIn (9999+1) _ _ _).run P w=_;unfold Op.equalIn;simp[run_underlying hb]
def bE{e:TypeId}(hb:P.underlying t=some (.pointer e))(w:World)(a:Option Addr):(Op.equal t (.pointer a) (.pointer none)).run P w=.ok a.isNone w:=by unfold Op.equal Op.maxDepth;show (Op.equalIn (9999+1) _ _ _).run P w=_;unfold Op.equalIn;cases a<;>simp[run_underlying hb]
def bF(P:Program)(op:BinOp)(t:TypeId)(x y:PV):Option PV :=
 match x,y with
 |.sc (.int k a),.sc (.int k' b)=>(bD op k a k' b).map .sc
 |.sc (.string a),.sc (.string b)=>(qD op a b).map .sc
 |.sc (.bool a),.sc (.bool b) =>
  match P.underlying t,op with
  |some .bool,.eql=>some (.sc (.bool (a==b)))
  |some .bool,.neq=>some (.sc (.bool (!(a==b))))
  |_,_=>none
 |.ptr _ _ _,.sc (.pointer none) =>
  match P.underlying t,op with
  |some (.pointer _),.eql=>some (.sc (.bool false))
  |some (.pointer _),.neq=>some (.sc (.bool true))
  |_,_=>none
 |.sc (.pointer none),.sc (.pointer none) =>
  match P.underlying t,op with
  |some (.pointer _),.eql=>some (.sc (.bool true))
  |some (.pointer _),.neq=>some (.sc (.bool false))
  |_,_=>none
 |_,_=>none
variable {x y:PV}{u:Value}
def It{v:Value}(X Y:Operand)(h:bF P op t x y=some p)
  (b:Rel C S w x u) (hv:Rel C S w y v) :
  ∃r,(do eqGuard op t X Y u v;binOp op t u v:Sem Value).run P w=.ok r w/\Rel C S w p r:=by
 unfold bF at h;split at h;cases b;cases hv;obtain⟨r,c,rfl⟩:=An.1 h;exact⟨r,by simp_all[eqGuard_at_int,Ir],.sc _⟩;cases b;cases hv;obtain⟨r,c,rfl⟩:=An.1 h;exact⟨r,by simp_all[eqGuard_at_string,Is],.sc _⟩;cases b;cases hv;split at h;rename_i hb;cases h;exact⟨_,by simp_all[eqGuard_at_bool,binOp,lY],.sc _⟩;rename_i hb;cases h;exact⟨_,by simp_all[eqGuard_at_bool,binOp,lY],.sc _⟩;cases h
 .cases hv;cases b with
  |ptr h1 h2 h3 =>
  obtain⟨a,rfl⟩:=h1;split at h;rename_i e hb;cases h;exact⟨_,by simp_all[eqGuard_at_pointer,binOp,bE],.sc _⟩;rename_i e hb;cases h;exact⟨_,by simp_all[eqGuard_at_pointer,binOp,bE],.sc _⟩;cases h
 cases b;cases hv;split at h;rename_i e hb;cases h;exact⟨_,by simp_all[eqGuard_at_pointer,binOp,bE],.sc _⟩;rename_i e hb;cases h;exact⟨_,by simp_all[eqGuard_at_pointer,binOp,bE],.sc _⟩;cases h;cases h
def Xm(P:Program)(t:TypeId)(x i:PV):Option PV :=
 match i with
 |.sc (.int _ n) =>
  match P.underlying t with
  |some (.slice e) =>
   match x with
   |.lst len cs=>if (0<=n/\n<(len:Int))/\P.cellsOf e≠0 then some (.ip (cs.drop (n.toNat * P.cellsOf e))) else none
   |.sl o ver _ off len=>if (0<=n/\n<(len:Int))/\P.cellsOf e≠0 then some (.ptr o ver (off+n.toNat * P.cellsOf e)) else none
   |_=>none
  |some (.array len e) =>
   match x with
   |.ip cs=>if (0<=n/\n<(len:Int))/\P.cellsOf e≠0 then some (.ip (cs.drop (n.toNat * P.cellsOf e))) else none
   |.ptr o ver off=>if (0<=n/\n<(len:Int))/\P.cellsOf e≠0 then some (.ptr o ver (off+n.toNat * P.cellsOf e)) else none
   |_=>none
  |_=>none
 |_=>none
theorem ui(h:P.cellsOf t≠0)(w:World):(sizeOf t).run P w=.ok (P.cellsOf t) w:=by unfold sizeOf typeInfo;unfold Program.cellsOf at h ⊢;cases hi:P.info? t<;>simp_all
variable {d:TypeDesc}
def lZ(h:P.underlying t=some d)(w:World):(sizeOf t).run P w=.ok (P.cellsOf t) w:=by unfold sizeOf typeInfo Program.cellsOf;unfold Program.underlying at h;cases hi:P.info? t<;>simp_all
def VF{c:Array Value}{k:Nat}(hs:cs≠[]->o+cs.length<=c.size)
  (h1:∀(i:Nat) (v:Value),i<cs.length->c[o+i]?=some v->v.oneCell'=true)
  (h:∀(i:Nat) (p:PV) (v:Value),cs[i]?=some p->c[o+i]?=some v->Rel C S w p v) :
  (cs.drop k≠[]->(o+k)+(cs.drop k).length<=c.size)/\(∀(i:Nat) (v:Value),i<(cs.drop k).length->c[(o+k)+i]?=some v->v.oneCell'=true) /\
  ∀(i:Nat) (p:PV) (v:Value),(cs.drop k)[i]?=some p->c[(o+k)+i]?=some v->Rel C S w p v:=by
 refine⟨λa=>?_,λi v hi hv=>?_,λi p v d hv=>?_⟩;have b:k<cs.length:=by obtain h|h:=Bo k cs.length;exact h;exact absurd (BW h) a
 have:=hs (by intro e;rw[e]at b;simp at b);rw[Bq];omega;rw[Bq]at hi;exact h1 (k+i) v EA (by rw[<-Nat.add_assoc];exact hv);grind
theorem Addr.add_plain(b o n:Nat):Addr.add ⟨b,o,none⟩ n=⟨b,o+n,none⟩:=Addr.add_lit b o n
variable {i:PV}
def Iu{v:Value}
  (h:Xm P t x i=some p) (g:Rel C S w x u) (hv:Rel C S w i v):∃r,(Instr.indexAt t u v).run P w=.ok r w/\Rel C S w p r:=by
 unfold Xm at h;split at h;cases hv;rename_i k n;split at h;rename_i e d;split at h;rename_i len cs;split at h
 .rename_i hn;obtain⟨hn,c⟩:=hn;cases h;cases g with
  |lst0=>omega
  |lst1 q hm hb hM hs h1 j =>
  obtain⟨g1,l,g3⟩:=VF (k:=n.toNat * P.cellsOf e) hs h1 j;refine⟨_,?_,.ip hb hM g1 l g3⟩;simp[Instr.indexAt,asIntOf,run_underlying d,hn,ui c,Addr.add_plain]
 cases h;rename_i o ver sz off len;split at h
 .rename_i hn;obtain⟨hn,c⟩:=hn;cases h;cases g with
  |sl h1 h2 h3 =>
  obtain⟨a,cap,rfl,k1,y,z,s⟩:=h1;obtain⟨b,f,rfl⟩:=s EA;refine⟨_,by simp[Instr.indexAt,asIntOf,run_underlying d,hn,ui c,Addr.add_plain];rfl,.ptr ⟨_,rfl⟩ h2 λv0 m=>?_⟩;grind
 cases h;cases h;rename_i len e d;split at h;rename_i cs;split at h
 .rename_i hn;obtain⟨hn,c⟩:=hn;cases h;cases g with
  |ip hb hM hs h1 j =>
  obtain⟨g1,l,g3⟩:=VF (k:=n.toNat * P.cellsOf e) hs h1 j;refine⟨_,?_,.ip hb hM g1 l g3⟩;simp[Instr.indexAt,asIntOf,run_underlying d,hn,ui c,Addr.add_plain,Instr.sureAddr]
 cases h;rename_i o ver off;split at h
 .rename_i hn;obtain⟨hn,c⟩:=hn;cases h;cases g with
  |ptr h1 h2 h3 =>
  obtain⟨a,rfl⟩:=h1;refine⟨_,by simp[Instr.indexAt,asIntOf,run_underlying d,hn,ui c,Instr.sureAddr];rfl,.ptr ⟨_,rfl⟩ h2 λv0 m=>?_⟩;grind[Addr.add_plain]
 cases h;cases h;cases h;cases h
def bG(P:Program)(t:TypeId)(x:PV)(f:Nat):Option PV :=
 match P.underlying t with
 |some (.struct fs) =>
  match fs[f]? with
  |some fd =>
   if P.cellsOf fd.type=0 then none else
   match x with
   |.ip cs=>some (.ip (cs.drop fd.offset))
   |.ptr o ver off=>some (.ptr o ver (off+fd.offset))
   |_=>none
  |none=>none
 |_=>none
variable {f:Nat}
def Iv(h:bG P t x f=some p)(d:Rel C S w x u):
  ∃r,(Instr.fieldAt t u f).run P w=.ok r w/\Rel C S w p r:=by
 unfold bG at h;split at h;rename_i fs e;split at h;rename_i g hf;split at h;cases h;rename_i c;have b:=ui c w;split at h
 .cases h;cases d with
  |ip hb hM hs h1 i =>
  obtain⟨g1,j,g3⟩:=VF (k:=g.offset) hs h1 i;refine⟨_,?_,.ip hb hM g1 j g3⟩;simp[Instr.fieldAt,run_underlying e,hf,Instr.sureAddr,fieldPlace,b,c,Addr.add_plain]
 .cases h;cases d with
  |ptr h1 h2 h3 =>
  obtain⟨a,rfl⟩:=h1;refine⟨_,by simp[Instr.fieldAt,run_underlying e,hf,Instr.sureAddr,fieldPlace,b,c];rfl,.ptr ⟨_,rfl⟩ h2 λv0 l=>?_⟩;grind[Addr.add_plain]
 cases h;cases h;cases h
def bH(c:Array Value)(o:Nat):c.extract o o=#[]:=EI
def mc{c:Array Value}{e:TypeId}{fz:Nat × Nat}(hb:w.heap[b]?=some (.cells c e fz)):
  ∀(n i:Nat) (a:Array Value),o+i+n<=c.size->(loadCellsFrom ⟨b,o,none⟩ i n a).run P w=.ok (a++c.extract (o+i) (o+i+n)) w:=by
 intro n;induction n with
 |zero =>
 simp[loadCellsFrom,bH]
 |succ n d =>
 intro i a h;have hc:w.cell? ⟨b,o+i,none⟩=some (c[o+i]' EA):=by simp[World.cell?,hb]
 unfold loadCellsFrom;simp only[Sem.run_bind,run_load,Addr.add_plain,hc,Aq];rw[d (i+1) _ EA];congr 1;grind
def md(h:P.underlying t=some d)(w:World):(isAgg t).run P w=.ok (Wn (P.underlying t)) w:=by unfold isAgg;rw[h];simp only[Sem.run_bind,run_underlying h,Aq];cases d<;>rfl
def eZ{c:Array Value}{e:TypeId}{fz:Nat × Nat}(j:P.underlying t=some d)
  (hb:w.heap[b]?=some (.cells c e fz)) (hs:cs≠[]->o+cs.length<=c.size)
  (h1:∀(i:Nat) (v:Value),i<cs.length->c[o+i]?=some v->v.oneCell'=true)
  (h:∀(i:Nat) (q:PV) (v:Value),cs[i]?=some q->c[o+i]?=some v->Rel C S w q v) (a:Z4 P t cs=some p) :
  ∃r,(loadVar t ⟨b,o,none⟩).run P w=.ok r w/\Rel C S w p r:=by
 unfold Z4 at a;unfold loadVar;simp only[Sem.run_bind,md j,Aq];cases k:Wn (P.underlying t)
 .simp only[k,A7,if_false]at a ⊢;cases cs with
  |nil=>cases a
  |cons q qs =>
  cases a;have:=hs EB;simp only[Ab]at this;have hc:w.cell? ⟨b,o,none⟩=some (c[o]' EA):=by simp[World.cell?,hb]
  refine⟨c[o]' EA,by simp_all,?_⟩;exact h 0 p _ rfl EB
 simp only[k,if_true]at a ⊢;split at a;rename_i g;cases a;refine⟨.agg (c.extract o (o+P.cellsOf t)),?_,?_⟩;simp only[Sem.run_bind,lZ j,Aq,loadCells];by_cases h0:P.cellsOf t=0;simp_all[loadCellsFrom,bH];have f:cs≠[]:=by intro e;rw[e]at g;simp at g;exact h0 g
 have:=hs f;have l:=mc (P:=P) (o:=o) hb (P.cellsOf t) 0 #[] EA;simp_all;by_cases h0:P.cellsOf t=0;rw[h0,BK,bH];refine .agg EB ?_ ?_;intro i v hv;simp at hv;intro i c v hc;simp at hc;have f:cs≠[]:=by intro e;rw[e]at g;simp at g;exact h0 g
 have:=hs f;have hx:∀(i:Nat) (v:Value),(c.extract o (o+P.cellsOf t))[i]?=some v->i<P.cellsOf t/\c[o+i]?=some v:=by intro i v hv;rw[B9]at hv;split at hv;exact⟨by omega,hv⟩;cases hv
 refine .agg EF ?_ ?_<;>grind;cases a
variable {vs:Array Value}
def bI(b:P.underlying t=some d)(hl:cs.length=vs.size)
  (h1:∀(i:Nat) (v:Value),vs[i]?=some v->v.oneCell'=true) (h:∀(i:Nat) (c:PV) (v:Value),cs[i]?=some c->vs[i]?=some v->Rel C S w c v)
  (a:Z4 P t (cs.drop o)=some p):∃r,(part t vs o).run P w=.ok r w/\Rel C S w p r:=by
 unfold Z4 at a;unfold part;simp only[Sem.run_bind,md b,Aq];cases e:Wn (P.underlying t);simp only[e,A7,if_false]at a ⊢;rw[List.head?_drop]at a;have ho:o<cs.length:=(Ad.1 a).1;have hv:vs[o]?=some (vs[o]' EA):=EB;exact⟨_,by simp[hv],h o p _ a hv⟩;simp only[e,if_true]at a ⊢;split at a;rename_i f;cases a;rw[Bq]at f;refine⟨.agg (vs.extract o (o+P.cellsOf t)),by simp[lZ b],?_⟩;by_cases h0:P.cellsOf t=0;rw[h0,BK,bH];refine .agg EB ?_ ?_;intro i v hv;simp at hv;intro i c v hc;simp at hc;have hx:∀(i:Nat) (v:Value),(vs.extract o (o+P.cellsOf t))[i]?=some v->i<P.cellsOf t/\vs[o+i]?=some v:=by intro i v hv;rw[B9]at hv;split at hv;exact⟨by omega,hv⟩;cases hv
 refine .agg EF ?_ ?_<;>grind;cases a
def RelL(C:Ctx)(S:Store)(w:World)(cs:List PV)(vs:Array Value):Prop :=
 cs.length=vs.size/\(∀(i:Nat) (v:Value),vs[i]?=some v->v.oneCell'=true)/\∀(i:Nat) (c:PV) (v:Value),cs[i]?=some c->vs[i]?=some v->Rel C S w c v
theorem RelL.mono(st:Step C S w C' S' w')(h:RelL C S w cs vs):RelL C' S' w' cs vs :=
 ⟨h.1,h.2.1,λi c v hc hv=>(h.2.2 i c v hc hv).mono st⟩
def Iw(l:List Value):∀(k off:Nat) (cells:Array Value),off+k+l.length<=cells.size ->
  ((l.zipIdx k).foldl (λcs x=>cs.setIfInBounds (off+x.2) x.1) cells).size=cells.size /\
  ∀i,((l.zipIdx k).foldl (λcs x=>cs.setIfInBounds (off+x.2) x.1) cells)[i]?=if off+k<=i/\i<off+k+l.length then l[i-(off+k)]? else cells[i]?:=by
 induction l with
 |nil=>simp[if_neg]
 |cons x xs a =>
 intro k off cells h;simp only[Ab]at h;simp only[List.zipIdx_cons,A6];obtain⟨h1,h2⟩:=a (k+1) off (cells.setIfInBounds (off+k) x) EF;refine⟨by rw[h1];simp,λi=>?_⟩;rw[h2 i];simp only[Ab];by_cases hi:i=off+k;subst hi;rw[if_neg EA,if_pos EA];have:off+k<cells.size:=EA;simp[this];grind
def PV.fit:PV->Bool
 |.agg _=>true
 |p=>p.one
def Y2(place:Nat->Option (Nat × Nat))(cells:List PV):List (Nat × PV)->Option (List PV)
 |[]=>some cells
 |(i,p)::rest =>
  match place i with
  |none=>none
  |some (off,size) =>
  if p.cells.length=size/\off+size<=cells.length/\p.fit=true then Y2 place (cells.take off++p.cells++cells.drop (off+size)) rest else none
theorem Rel.cells'{v:Value}(h:Rel C S w p v)(h1:p.fit=true):RelL C S w p.cells v.cells:=by
 cases p with
 |agg cs=>cases h with|agg hl h1 h2=>exact⟨hl,h1,h2⟩
 |junk=>cases h1
 |tup=>cases h1
 |sc v=>exact h.cells (by simp[PV.cells];exact h1)
 |_=>exact h.cells (by simp[PV.cells,PV.one])
def me{place:Nat->Option (Nat × Nat)}(F:Operand->PV)(ρ:Operand->Value)(d:∀x,Rel C S w (F x) (ρ x)):
  ∀(parts:List (Nat × Operand)) (cs:List PV) (vs:Array Value) (cs':List PV),RelL C S w cs vs->Y2 place cs (parts.map λx=>(x.1,F x.2))=some cs' ->
   ∃vs',Instr.fill place vs (parts.map λx=>(x.1,ρ x.2))=some vs'/\RelL C S w cs' vs':=by
 intro parts;induction parts with
 |nil=>intro cs vs cs' h hf;cases hf;exact⟨vs,rfl,h⟩
 |cons x xs f =>
 intro cs vs cs' h hf;obtain⟨i,x⟩:=x;simp only[Ap,Y2]at hf;split at hf;cases hf;rename_i off size n;split at hf;rename_i hc;obtain⟨g,k,a⟩:=hc;have l:=(d x).cells' a;obtain⟨hl,h1,h2⟩:=h;obtain⟨o,g1,p⟩:=l;obtain⟨s1,s2⟩:=Iw (ρ x).cells.toList 0 off vs EF;simp only[BK,Array.length_toList]at s1 s2;refine Exists.imp (λvs'=>And.imp_left λe=>?_) (f _ (((ρ x).cells.toList.zipIdx 0).foldl (λcs x=>cs.setIfInBounds (off+x.2) x.1) vs) cs' ?_ hf);grind[Instr.fill,Array.toList_zipIdx];refine⟨?_,?_,?_⟩;rw[s1];simp;omega;grind;intro j c v b hv;rw[s2 j]at hv;split at hv;grind;rename_i q;by_cases m:j<off;grind[List.getElem?_append_left];rw[Am EF,Ak,Az,Bt EA,AV]at b;grind;cases hf
def Program.zeroOf(P:Program)(t:TypeId):Option Value:=(P.info? t).bind (·.zero)
variable {z:Value}
def Xn(h:Program.zeroOf P t=some z)(w:World):(zeroValue t).run P w=.ok z w:=by unfold zeroValue typeInfo;unfold Program.zeroOf at h;cases hi:P.info? t<;>simp_all
def jW(z:Value):List PV:=z.cells.toList.map .sc
def mg(h:z.cells.all (·.oneCell')=true):RelL C S w (jW z) z.cells:=by refine⟨by simp[jW],?_,?_⟩;grind;intro i c v hc hv;simp only[jW,Ai,Array.getElem?_toList,hv,AR,Option.some.injEq]at hc;subst hc;exact .sc v
def fe(P:Program)(t:TypeId):Nat->Option (Nat × Nat):=λi =>
 match P.underlying t with
 |some (.struct fs) =>
  match fs[i]? with
  |some f=>some (f.offset,P.cellsOf f.type)
  |none=>none
 |some (.array _ e)=>some (i*P.cellsOf e,P.cellsOf e)
 |_=>none
def ff(P:Program)(t:TypeId):Bool :=
 match P.underlying t with
 |some (.struct fs)=>fs.all λf=>(P.info? f.type).isSome
 |some (.array _ e)=>(P.info? e).isSome
 |_=>false
def bJ(P:Program)(t:TypeId)(parts:List (Nat × PV)):Option PV :=
 match Program.zeroOf P t with
 |none=>none
 |some z=>if z.cells.all (·.oneCell')=true/\ff P t=true then (Y2 (fe P t) (jW z) parts).map .agg else none
def mh(h:(P.info? t).isSome=true)(w:World):(sizeOf t).run P w=.ok (P.cellsOf t) w:=by unfold sizeOf typeInfo Program.cellsOf;cases hi:P.info? t<;>simp_all
def Ix:∀(l:List Field),(∀f∈l,(P.info? f.type).isSome=true) ->
  (l.mapM λf=>(do pure (f.offset,<-sizeOf f.type):Sem (Nat × Nat))).run P w=.ok (l.map λf=>(f.offset,P.cellsOf f.type)) w:=by
 intro l;induction l<;>simp_all[mh]
def Iy{parts:List (Nat × Operand)}(F:Operand->PV)(ρ:Operand->Value)(k:∀x,Rel C S w (F x) (ρ x))
  (h:bJ P t (parts.map λx=>(x.1,F x.2))=some p):∃r,(Instr.build t (parts.map λx=>(x.1,ρ x.2)).toArray).run P w=.ok r w/\Rel C S w p r:=by
 unfold bJ at h;split at h;cases h;rename_i z l;split at h
 .rename_i hc;obtain⟨b,a⟩:=hc;obtain⟨cs',hf,rfl⟩:=An.1 h;obtain⟨vs',hv,c⟩:=me F ρ k parts _ _ _ (mg b) hf;refine⟨.agg vs',?_,.agg c.1 c.2.1 c.2.2⟩;unfold Instr.build;simp only[Sem.run_bind,Xn l,Aq];unfold ff at a;unfold fe at hv;cases j:P.underlying t with
  |none=>simp_all
  |some d =>
  rw[j]at a hv;cases d with
  |struct fs =>
  simp only at a hv;simp only[run_underlying j,Aq,Sem.run_bind];have hm:=Ix (P:=P) (w:=w) fs.toList (λf hf=>by rw[Array.all_eq_true_iff_forall_mem]at a;exact a f (Cn.1 hf));have g:(fs.mapM λf=>(do pure (f.offset,<-sizeOf f.type):Sem (Nat × Nat))).run P w=.ok (fs.map λf=>(f.offset,P.cellsOf f.type)) w:=by rw[<-Array.toArray_toList (xs:=fs),List.mapM_toArray];simp only[Sem.run_map,hm,Aq];congr 1;apply BX.1;simp
  rw[g];simp only[Aq];have m:(λ(x:Nat)=>(fs.map λ(f:Field)=>(f.offset,P.cellsOf f.type))[x]?)=(λi=>match fs[i]? with|some (f:Field)=>some (f.offset,P.cellsOf f.type)|none=>none):=by funext i;rw[Array.getElem?_map];cases fs[i]?<;>rfl
  simp_all
  |array n e =>
  simp_all[run_underlying,mh]
  |_=>cases a
 cases h
def qw(n:Nat)(z:Value):List PV:=(List.range (n*z.cells.size)).map λi=>.sc (z.cells[i%z.cells.size]!)
def ml(h:z.cells.all (·.oneCell')=true)(n:Nat):
  RelL C S w (qw n z) ((Array.range (n*z.cells.size)).map (z.cells[·%z.cells.size]!)):=by
 refine⟨by simp[qw],?_,?_⟩;grind[Nat.mod_lt];intro i c v hc hv;rw[Array.getElem?_map,An]at hv;obtain⟨j,a,rfl⟩:=hv;obtain⟨h1,h2⟩:=Bn.1 a;simp at h1 h2;subst h2;simp only[qw,Ai,A4 h1,AR,Option.some.injEq]at hc;subst hc;exact .sc _
def Ys(P:Program)(e:TypeId)(len:Nat)(parts:List (Nat × PV)):Option (List PV) :=
 match Program.zeroOf P e with
 |none=>none
 |some z=>if z.cells.all (·.oneCell')=true/\z.cells.size=P.cellsOf e/\P.cellsOf e≠0/\len*P.cellsOf e<=2^24 then
   Y2 (λi=>some (i*P.cellsOf e,P.cellsOf e)) (qw len z) parts else none
variable {N:Nat}
def fg{e:TypeId}{parts:List (Nat × Operand)}(k:P.underlying t=some (.slice e))(F:Operand->PV)(ρ:Operand->Value)
  (m:∀x,Rel C S w (F x) (ρ x)) (h:Ys P e N (parts.map λx=>(x.1,F x.2))=some cs) :
  ∃vs,(Instr.buildSlice t N (parts.map λx=>(x.1,ρ x.2)).toArray).run P w=.ok (.slice (some ⟨w.heap.size,0,none⟩) N N) (w.alloc (.cells vs e))/\RelL C S w cs vs/\vs.size=N*P.cellsOf e:=by
 unfold Ys at h;split at h;cases h;rename_i z q;split at h;rename_i hc;obtain⟨d,n,h0,o⟩:=hc;obtain⟨vs',hv,i⟩:=me F ρ m parts _ _ _ (ml d N) h;have f:∀(l:List (Nat × PV)) (a b:List PV) (j:Nat->Option (Nat × Nat)),Y2 j a l=some b->b.length=a.length:=by
  intro l;induction l with
  |nil=>intro a b j p;cases p;rfl
  |cons x xs r =>
  grind[Y2]
 refine⟨vs',?_,i,?_⟩;unfold Instr.buildSlice;simp only[Sem.run_bind,run_underlying k,Aq,ui h0];rw[if_neg EA];by_cases g:N*P.cellsOf e=0;have c:N=0:=by obtain h|h:=Nat.mul_eq_zero.1 g;exact h;exact absurd h h0
 subst c;simp only[Dh,DL,D4]at hv;simp only[Dh,if_true,Sem.run_pure,Aq,Sem.run_bind,DL,D4];rw[hv];simp[newRow];simp_all[Xn,newRow];rw[<-i.1,f _ _ _ _ h];simp_all[qw];cases h
def wZ(d:Nat)(x:Option PV):Option Nat :=
 match x with
 |none=>some d
 |some (.sc (.int _ n))=>if 0<=n then some n.toNat else none
 |_=>none
def fh{d y:Nat}{x:Option PV}{u:Option Value}(h:wZ d x=some b)(hx:∀p,x=some p->∃v,u=some v/\Rel C S w p v)(hn:x=none->u=none)
  (hb:b<=y) (a:BoundsCode):(u=none/\b=d)\/∃v,u=some v/\(Instr.sliceBound v y a).run P w=.ok b w:=by
 unfold wZ at h;split at h;simp_all;split at h;rename_i k n e;cases h;obtain⟨v,hv,c⟩:=hx _ rfl;cases c;simp_all[Instr.sliceBound,asIntOf];cases h;cases h
def bK(P:Program)(t:TypeId)(x:PV)(lo hi mx:Option PV):Option PV :=
 match wZ 0 lo with
 |none=>none
 |some l =>
 match x with
 |.lst n cs =>
  match P.underlying t,wZ n hi,wZ n mx with
  |some (.slice e),some h,some m =>
  if l<=h/\h<=m/\m<=n/\P.cellsOf e≠0/\(mx.isSome=true->hi.isSome=true) then some (.lst (h-l) ((cs.drop (l*P.cellsOf e)).take ((h-l)*P.cellsOf e))) else none
  |_,_,_=>none
 |.sl o ver sz off n =>
  match P.underlying t,wZ n hi with
  |some (.slice e),some h=>if l<=h/\h<=n/\P.cellsOf e≠0/\sz=P.cellsOf e/\mx.isSome=false then some (.sl o ver sz (off+l*sz) (h-l)) else none
  |_,_=>none
 |.sc (.string s) =>
  match P.underlying t,wZ s.size hi with
  |some .string,some h=>if l<=h/\h<=s.size/\mx.isSome=false then some (.sc (.string (s.extract l h))) else none
  |_,_=>none
 |_=>none
def bL{n cap l m:Nat}{lo hi mx:Option PV}{c d umx:Option Value}(b:Bool)(hl:wZ 0 lo=some l)(r:wZ n hi=some N)
  (hm:wZ cap mx=some m) (h1:l<=N) (h2:N<=m) (h3:m<=cap) (j:mx.isSome=true->hi.isSome=true)
  (g:(∀p,lo=some p->∃v,c=some v/\Rel C S w p v)/\(lo=none->c=none)) (i:(∀p,hi=some p->∃v,d=some v/\Rel C S w p v)/\(hi=none->d=none))
  (e:(∀p,mx=some p->∃v,umx=some v/\Rel C S w p v)/\(mx=none->umx=none)) :
  (Instr.sliceBounds b n cap c d umx).run P w=.ok (l,N,m) w:=by
 unfold Instr.sliceBounds;have hM:∀a,(umx=none/\m=cap)\/∃v,umx=some v/\(Instr.sliceBound v cap a).run P w=.ok m w:=λa=>fh hm e.1 e.2 h3 a;have o:∀y a,N<=y->(d=none/\N=n)\/∃v,d=some v/\(Instr.sliceBound v y a).run P w=.ok N w:=λy a s=>fh r i.1 i.2 s a;have t:∀a,(c=none/\l=0)\/∃v,c=some v/\(Instr.sliceBound v N a).run P w=.ok l w:=λa=>fh hl g.1 g.2 h1 a;have low:∀a,(match c with|some v=>(do let l <-Instr.sliceBound v N a;pure (l,N,m))|none=>(do let l <-pure 0;pure (l,N,m)):Sem (Nat × Nat × Nat)).run P w=.ok (l,N,m) w:=by intro a;obtain⟨rfl,rfl⟩|⟨v,rfl,hv⟩:=t a;rfl;simp_all
 obtain⟨rfl,rfl⟩|⟨x,rfl,k⟩:=hM (if b then .slice3Acap else .slice3Alen);rcases o m (if b then .sliceAcap else .sliceAlen) h2 with ⟨rfl,rfl⟩|⟨u,rfl,f⟩
 exact low _;simp only[pure_bind];rw[Sem.run_bind,f];exact low _;obtain⟨rfl,rfl⟩|⟨u,rfl,f⟩:=o m .slice3B h2;have:hi.isSome=true:=j (by
  cases q:mx with
  |none=>have:=e.2 q;cases this
  |some _=>rfl)
 cases q:hi<;>simp_all;simp only;rw[Sem.run_bind,k];simp only[Aq];rw[Sem.run_bind,f];exact low _
variable {n:Nat}
def Iz{x:Option PV}(y:Nat)(h:wZ n x=some b):x≠none->wZ y x=some b:=by intro hx;unfold wZ at h ⊢;grind
def IA{lo hi mx:Option PV}{j y umx:Option Value}(h:bK P t x lo hi mx=some p)(hu:Rel C S w x u)
  (z:(∀p,lo=some p->∃v,j=some v/\Rel C S w p v)/\(lo=none->j=none)) (a0:(∀p,hi=some p->∃v,y=some v/\Rel C S w p v)/\(hi=none->y=none))
  (g:(∀p,mx=some p->∃v,umx=some v/\Rel C S w p v)/\(mx=none->umx=none)):∃r,(Instr.sliceAt t u j y umx).run P w=.ok r w/\Rel C S w p r:=by
 unfold bK at h;split at h;cases h;rename_i l hl;split at h;rename_i n cs;split at h;rename_i e hb m ht hh hm;split at h
 .rename_i hc;obtain⟨c1,c2,c3,c4,c5⟩:=hc;cases h;have sz:=ui c4 w;have a3:∀(a:Option Addr) (cap:Nat),n<=cap->∃m',hb<=m'/\(Instr.sliceAt t (.slice a n cap) j y umx).run P w=.ok (.slice (if m'=l then a else a.map (·.add (l*P.cellsOf e))) (hb-l) (m'-l)) w:=by
   intro a cap c7;cases hq:mx with
   |none =>
   have d:wZ cap (none:Option PV)=some cap:=rfl;have:=bL (P:=P) true hl hh (hq ▸ d:wZ cap mx=some cap) c1 EA (Af _) c5 z a0 g;refine⟨cap,by omega,?_⟩;simp only[Instr.sliceAt,Sem.run_bind,run_underlying ht,Aq,Instr.slice,this,sz,Sem.run_pure]
   |some pm =>
   have d:=Iz cap hm (by rw[hq];simp);have:=bL (P:=P) (n:=n) (cap:=cap) true hl hh d c1 c2 EA c5 z a0 g;refine⟨m,by omega,?_⟩;simp only[Instr.sliceAt,Sem.run_bind,run_underlying ht,Aq,Instr.slice,this,sz,Sem.run_pure]
  cases hu with
  |lst0 =>
  obtain⟨m',a6,hr⟩:=a3 _ _ (BO _);have:hb-l=0:=EA;refine⟨_,hr,?_⟩;rw[this];simp only[List.drop_nil,DU];exact .lst0
  |lst1 hn d1 a7 hM hs h1 hr =>
  rename_i cap b o c ee fz;obtain⟨m',a6,a8⟩:=a3 _ _ hn;refine⟨_,a8,?_⟩;obtain⟨g1,g2,g3⟩:=VF (k:=l*P.cellsOf e) hs h1 hr;by_cases a9:m'=l;have:hb-l=0:=EA;rw[this];simp only[Dh,Df];exact .lst0;rw[if_neg a9];simp only[AR,Addr.add_plain];refine .lst1 EA EA a7 hM (λa1=>?_) (λi v hi hv=>?_) (λi q v hq hv=>?_);have:=g1 (by intro e0;rw[e0]at a1;simp at a1);grind;simp only[Az]at hi;exact g2 i v EA hv;by_cases b7:i<(hb-l)*P.cellsOf e;rw[AP b7]at hq;exact g3 i q v hq hv;rw[Ao EF]at hq;cases hq
 cases h;cases h;rename_i o ver sz off n;split at h;rename_i e hb ht hh;split at h
 .rename_i hc;obtain⟨c1,c2,c3,rfl,c5⟩:=hc;cases h;have f:mx=none:=by cases mx with|none=>rfl|some _=>cases c5
  cases hu with
  |sl h1 h2 h3 =>
  obtain⟨a,cap,rfl,k1,k2,k3,k4⟩:=h1;have d:wZ cap mx=some cap:=by rw[f];rfl
  have a2:=bL (P:=P) (n:=n) (cap:=cap) true hl hh d c1 EA (Af _) (by rw[f];simp) z a0 g;refine⟨.slice (if cap=l then a else a.map (·.add (l*P.cellsOf e))) (hb-l) (cap-l),?_,?_⟩;simp only[Instr.sliceAt,Sem.run_bind,run_underlying ht,Aq,Instr.slice,a2,ui c3,Sem.run_pure];have e1:hb-l<=cap-l:=EA;have e2:hb-l<=xx:=AF (Nat.sub_le _ _) (AF c2 k2);have e3:cap-l<=maxLen:=AF (Nat.sub_le _ _) k3;clear a2 d;refine .sl ⟨_,_,rfl,e1,e2,e3,λa1=>?_⟩ h2 λv0 b8=>?_;grind[Addr.add_plain];obtain⟨g1,g2⟩:=h3 v0 b8;refine⟨g1,λhq=>?_⟩;obtain⟨q1,q2,q3,q4⟩|⟨b,k',a',c8,q1,q2,q3,q4⟩:=g2 hq;simp_all;cases q2;refine .inr ⟨b,k',_,_,q1,rfl,λd0=>?_,λa1=>?_⟩;have c6:l=0:=by obtain h|h:=Ch l;exact h;have:0<l*P.cellsOf e:=Nat.mul_pos h (Ci c3);omega
  subst c6;obtain⟨z1,z2⟩:=q3 EA;subst z1;refine⟨?_,by simpa using z2⟩;by_cases a4:cap=0;simp[a4];simp[a4,Addr.add_plain];grind[Addr.add_plain]
 cases h;cases h;rename_i s;split at h;rename_i hb ht hh;split at h;rename_i hc;obtain⟨c1,c2,c5⟩:=hc;cases h;have f:mx=none:=by cases mx with|none=>rfl|some _=>cases c5
 have a5:umx=none:=g.2 f;subst a5;cases hu;have d:wZ s.size mx=some s.size:=by rw[f];rfl
 have a2:=bL (P:=P) (n:=s.size) (cap:=s.size) (umx:=none) false hl hh d c1 c2 (Af _) (by rw[f];simp) z a0 g;refine⟨_,?_,.sc _⟩;simp[Instr.sliceAt,run_underlying ht,Instr.slice,a2];cases h;cases h;cases h
def bM(P:Program)(t:TypeId)(x:PV):Option PV :=
 match P.underlying t with
 |some (.slice _) =>
  match x with
  |.lst n _=>some (.sc (.int .i64 n))
  |.nl _ _ n _=>some (.sc (.int .i64 n))
  |.sl _ _ _ _ n=>some (.sc (.int .i64 n))
  |.sc (.slice _ n _)=>some (.sc (.int .i64 n))
  |_=>none
 |some .string =>
  match x with
  |.sc (.string s)=>some (.sc (.int .i64 s.size))
  |_=>none
 |_=>none
def unP(op:UnOp)(x:PV):Option PV :=
 match x with
 |.sc (.bool b)=>match op with|.not=>some (.sc (.bool (!b)))|_=>none
 |.sc (.int k n)=>match op with|.neg=>some (.sc (.int k (k.wrap (0-n))))|_=>none
 |_=>none
def bN(P:Program)(src dst:TypeId)(x:PV):Option PV :=
 match P.underlying src with
 |none=>none
 |some _ =>
 match x with
 |.sc (.int _ n)=>match P.underlying dst with|some (.int k)=>some (.sc (.int k (k.wrap n)))|_=>none
 |.sc (.string s)=>match P.underlying dst with|some .string=>some (.sc (.string s))|_=>none
 |_=>none
def bO(P:Program)(t:TypeId)(x i:PV):Option PV :=
 match i with
 |.sc (.int _ n) =>
  match P.underlying t with
  |some (.array len e) =>
   match x with
   |.agg cs=>if (0<=n/\n<(len:Int))/\P.cellsOf e≠0/\(P.underlying e).isSome=true then Z4 P e (cs.drop (n.toNat * P.cellsOf e)) else none
   |_=>none
  |some .string =>
   match x with
   |.sc (.string s)=>if 0<=n then (s[n.toNat]?).map λb=>.sc (.int .u8 b.toNat) else none
   |_=>none
  |_=>none
 |_=>none
def bP(P:Program)(t:TypeId)(x:PV)(f:Nat):Option PV :=
 match P.underlying t with
 |some (.struct fs) =>
  match fs[f]? with
  |some fd=>if (P.underlying fd.type).isSome=true then (match x with|.agg cs=>Z4 P fd.type (cs.drop fd.offset)|_=>none) else none
  |none=>none
 |_=>none
def fi(x:PV):Option PV :=
 match x with
 |.ptr _ _ _=>some x
 |.ip _=>some x
 |.fn (.func _) _ _=>some x
 |_=>none
def Wo(f:Int->Int->Int)(x y:PV):Option PV :=
 match x,y with
 |.sc (.int k a),.sc (.int _ b)=>some (.sc (.int k (f a b)))
 |_,_=>none
def qj(x y:Int):Int:=if y<x then y else x
def qk(x y:Int):Int:=if x<y then y else x
def bQ(P:Program)(F:Nat->PV)(c:Call):Option PV :=
 match c.callee with
 |.builtin .len=>match c.args.toList,c.argTypes.toList with|[x],[t]=>bM P t (ev F x)|_,_=>none
 |.builtin .min=>match c.args.toList with|[x,y]=>Wo qj (ev F x) (ev F y)|_=>none
 |.builtin .max=>match c.args.toList with|[x,y]=>Wo qk (ev F x) (ev F y)|_=>none
 |_=>none
def Y3(P:Program):List Field->List PV->List PV->Option Bool
 |[],[],[]=>some true
 |f::fs,.sc (.int k a)::cs,.sc (.int k' b)::ds =>
  match P.underlying f.type with
  |some (.int _)=>if k=k' then (Y3 P fs cs ds).map (a==b&&·) else none
  |_=>none
 |f::fs,.sc (.bool a)::cs,.sc (.bool b)::ds =>
  match P.underlying f.type with
  |some .bool=>(Y3 P fs cs ds).map (a==b&&·)
  |_=>none
 |_,_,_=>none
def bR:Nat->List Field->Bool
 |_,[]=>true
 | i, f :: fs => f.name != "_" && f.offset == i && bR (i + 1) fs
def Wp(P:Program)(t:TypeId):Bool:=!P.stoodInHeld t&&!P.eqGuardType P.depth t&&bR 0 (P.fieldsOf t).toList
def bS(P:Program)(op:BinOp)(t:TypeId)(x y:PV):Option PV :=
 match x,y with
 |.agg cs,.agg ds =>
  match P.underlying t with
  |some (.struct fs) =>
  if Wp P t=true then
   match Y3 P fs.toList cs ds,op with
   |some b,.eql=>some (.sc (.bool b))
   |some b,.neq=>some (.sc (.bool (!b)))
   |_,_=>none
  else none
  |_=>none
 |_,_=>none
variable {CS:List PV}
theorem mn{DS:List PV}{xs y:Array Value}(hx:Rel C S w (.agg CS) (.agg xs))(hy:Rel C S w (.agg DS) (.agg y))(d:Nat):
  ∀(fs:List Field) (i:Nat) (b:Bool),bR i fs=true->Y3 P fs (CS.drop i) (DS.drop i)=some b->(Op.eqFields (d+1) xs y fs).run P w=.ok b w
 |[],i,b,_,h=>by
  generalize CS.drop i=cs at h;generalize DS.drop i=ds at h;cases cs with
  |nil =>
  cases ds<;>simp_all[Y3,Op.eqFields]
  |cons=>simp_all[Y3]
 |f::fs,i,b,g,h=>by
  simp only[bR,Aw,bne_iff_ne,beq_iff_eq]at g;obtain⟨⟨hn,rfl⟩,g⟩:=g;have step:∀(p q:PV) (ps qs:List PV),CS.drop f.offset=p::ps->DS.drop f.offset=q::qs->CS.drop (f.offset+1)=ps/\DS.drop (f.offset+1)=qs:=by
   intro p q ps qs h1 h2;have e1:CS.drop (f.offset+1)=(CS.drop f.offset).drop 1:=by rw[List.drop_drop]
   have e2:DS.drop (f.offset+1)=(DS.drop f.offset).drop 1:=by rw[List.drop_drop]
   rw[e1,e2,h1,h2];exact⟨rfl,rfl⟩
  have s:∀(e:TypeDesc) (p q:PV) (ps qs:List PV) (u v:Value) (c b':Bool),P.underlying f.type=some e->Wn (some e)=false->CS.drop f.offset=p::ps->DS.drop f.offset=q::qs->(∀r,Rel C S w p r->r=u)->(∀r,Rel C S w q r->r=v) ->
    (Op.equalIn (d+1) f.type u v).run P w=.ok c w->Y3 P fs ps qs=some b'->b=(c&&b')->(Op.eqFields (d+1) xs y (f::fs)).run P w=.ok b w:=by
   intro e p q ps qs u v c b' j a0 h1 h2 hu hv x l hb;cases hx with
   |agg lx ox rx =>
   cases hy with
   |agg ly oy ry =>
   obtain⟨r1,k1,z⟩:=bI (P:=P) (w:=w) (t:=f.type) j lx ox rx (o:=f.offset) (p:=p) (by grind[Z4]);obtain⟨r2,k3,k4⟩:=bI (P:=P) (w:=w) (t:=f.type) j ly oy ry (o:=f.offset) (p:=q) (by grind[Z4]);cases hu r1 z;cases hv r2 k4;obtain⟨g1,g2⟩:=step _ _ _ _ h1 h2;have ih:=mn (.agg lx ox rx) (.agg ly oy ry) d fs (f.offset+1) b' g (by rw[g1,g2];exact l);unfold Op.eqFields;rw[if_pos hn];simp only[Sem.run_bind,k1,k3,Aq,x];cases c;simp[hb];simp[hb,ih]
  unfold Y3 at h;split at h;simp_all;rename_i k a ps k' c qs h1 h2 h3;cases h1;split at h;rename_i z j;split at h;rename_i hk;subst hk;obtain⟨b',m,rfl⟩:=An.1 h;exact s _ _ _ _ _ _ _ _ _ j rfl h2 h3 (λr n=>by cases n;rfl) (λr n=>by cases n;rfl) (run_equalIn_int w d f.type k z a c j) m rfl;cases h;cases h;rename_i a ps c qs h1 h2 h3;cases h1;split at h;rename_i j;obtain⟨b',m,rfl⟩:=An.1 h;exact s _ _ _ _ _ _ _ _ _ j rfl h2 h3 (λr n=>by cases n;rfl) (λr n=>by cases n;rfl) (run_equalIn_bool' w d f.type a c j) m rfl;cases h;cases h
def IB{v:Value}(X Y:Operand)(h:bS P op t x y=some p)
  (g:Rel C S w x u) (hv:Rel C S w y v):∃r,(do eqGuard op t X Y u v;binOp op t u v:Sem Value).run P w=.ok r w/\Rel C S w p r:=by
 unfold bS at h;split at h;rename_i cs ds;split at h;rename_i fs i;split at h
 .rename_i a;unfold Wp at a;simp only[Aw,Cy]at a;obtain⟨⟨h1,h2⟩,h3⟩:=a;have hf:P.fieldsOf t=fs:=by unfold Program.fieldsOf;rw[i]
  have c:P.underlying t=some (.struct (P.fieldsOf t)):=by rw[hf];exact i
  have d:=g;have e:=hv;cases g with
  |agg j k a3 =>
  cases hv with
  |agg b1 b2 b3 =>
  rename_i xs f;have key:∀b,Y3 P fs.toList cs ds=some b->(Op.equalIn 10000 t (.agg xs) (.agg f)).run P w=.ok b w:=by intro b hb;show (Op.equalIn (9999+1) _ _ _).run P w=_;rw[run_equalIn_struct w 9999 t xs f c h1,hf];show (Op.eqFields (9998+1) xs f fs.toList).run P w=_;rw[hf]at h3;exact mn d e 9998 fs.toList 0 b h3 (by simpa using hb)
  split at h;rename_i b hb;cases h;exact⟨_,by simp_all[run_eqGuard_agg,run_eql_struct],.sc _⟩;rename_i b hb;cases h;exact⟨_,by simp_all[run_eqGuard_agg,run_neq_struct],.sc _⟩;cases h
 cases h;cases h;cases h
def uk(P:Program)(F:Nat->PV)(o:Oper):Option PV :=
 match o.op with
 |.move x=>some (ev F x)
 |.assign x=>some (ev F x)
 |.pick c a b=>match ev F c with|.sc (.bool t)=>some (bif t then ev F a else ev F b)|_=>none
 |.build t parts=>bJ P t (parts.toList.map λx=>(x.1,ev F x.2))
 |.buildSlice t len parts =>
  match P.underlying t with
  |some (.slice e)=>(Ys P e len (parts.toList.map λx=>(x.1,ev F x.2))).map (.lst len)
  |_=>none
 |.load t x=>match ev F x with|.ip cs=>if (P.underlying t).isSome=true then Z4 P t cs else none|_=>none
 |.nilCheck x=>fi (ev F x)
 |.binOp op t x y _ =>
  match bF P op t (ev F x) (ev F y) with
  |some p=>some p
  |none=>bS P op t (ev F x) (ev F y)
 |.unOp op _ x=>unP op (ev F x)
 |.convert src dst x=>bN P src dst (ev F x)
 |.makeInterface t x=>match P.underlying t with|some (.interface _)=>none|some _=>some (.ifc t (ev F x))|none=>none
 |.makeFunc fn first cap=>some (.fn fn (first.toList.map (ev F)) (cap.toList.map (ev F)))
 |.slice t x lo hi mx=>bK P t (ev F x) (lo.map (ev F)) (hi.map (ev F)) (mx.map (ev F))
 |.fieldAddr t x f=>bG P t (ev F x) f
 |.field t x f=>bP P t (ev F x) f
 |.indexAddr t x i=>Xm P t (ev F x) (ev F i)
 |.index t x i=>bO P t (ev F x) (ev F i)
 |.extract t i=>match ev F t with|.tup ps=>ps[i]?|_=>none
 |.call c=>bQ P F c
 |_=>none
section
variable {P:Program} {C:Ctx} {S:Store} {w:World} {F:Nat->PV} {ρ:Operand->Value} {p:PV}
def IC{b:Bool}{v:Value}(h1:Rel C S w x u)(h2:Rel C S w y v):Rel C S w (bif b then x else y) (if b=true then u else v):=EI
def ID{ty:TypeId}(h:bM P t x=some p)(d:Rel C S w x u):∃r,(Builtin.len_ #[t] ty #[u]).run P w=.ok r w/\Rel C S w p r:=by
 unfold bM at h;split at h;rename_i e b;split at h;cases h;cases d<;>exact⟨_,by simp[Builtin.len_,run_underlying b];rfl,.sc _⟩;cases h;cases d<;>exact⟨_,by simp[Builtin.len_,run_underlying b];rfl,.sc _⟩;cases h;cases d with|sl h1=>obtain⟨a,c,rfl,_⟩:=h1;exact⟨_,by simp[Builtin.len_,run_underlying b];rfl,.sc _⟩
 cases h;cases d;exact⟨_,by simp[Builtin.len_,run_underlying b];rfl,.sc _⟩;cases h;rename_i b;split at h;cases h;cases d;exact⟨_,by simp[Builtin.len_,run_underlying b];rfl,.sc _⟩;cases h;cases h
def IE{op:UnOp}(h:unP op x=some p)(a:Rel C S w x u):∃r,(Op.unary op u).run P w=.ok r w/\Rel C S w p r:=by unfold unP at h;split at h;cases a;split at h;cases h;exact⟨_,by simp[Op.unary],.sc _⟩;cases h;cases a;split at h;cases h;exact⟨_,by simp[Op.unary,Op.intArith],.sc _⟩;cases h;cases h
def IF{dst:TypeId}(h:bN P t dst x=some p)(a:Rel C S w x u):∃r,(convert t dst u).run P w=.ok r w/\Rel C S w p r:=by unfold bN at h;split at h;cases h;rename_i d hs;split at h;cases a;split at h;rename_i k b;cases h;exact⟨_,by simp_all[convert,run_underlying,Conv.intToInt],.sc _⟩;cases h;cases a;split at h;rename_i b;cases h;refine⟨_,?_,.sc _⟩;simp_all[convert,run_underlying];cases h;cases h
def IG{v:Value}(h:bO P t x i=some p)(a:Rel C S w x u)(hv:Rel C S w i v):∃r,(Instr.index t u v).run P w=.ok r w/\Rel C S w p r:=by
 unfold bO at h;split at h;cases hv;rename_i k n;split at h;rename_i len e f;split at h;split at h
 .rename_i hc;obtain⟨c1,c2,c3⟩:=hc;cases g:P.underlying e with
  |none=>simp_all
  |some d =>
  cases a with
  |agg hl h1 h2 =>
  obtain⟨r,j,c⟩:=bI g hl h1 h2 h;simp_all[Instr.index,asIntOf,run_underlying,ui]
 cases h;cases h;rename_i f;split at h;cases a;split at h;rename_i hn;obtain⟨b,hb,rfl⟩:=An.1 h;exact⟨_,by simp_all[Instr.index,asIntOf,run_underlying],.sc _⟩;cases h;cases h;cases h;cases h
def IH(h:bP P t x f=some p)(b:Rel C S w x u):∃r,(Instr.field t u f).run P w=.ok r w/\Rel C S w p r:=by
 unfold bP at h;split at h;rename_i fs i;split at h;rename_i c hf;split at h;rename_i e;split at h
 .cases g:P.underlying c.type with
  |none=>simp_all
  |some d =>
  cases b with
  |agg hl h1 h2 =>
  obtain⟨r,j,a⟩:=bI g hl h1 h2 h;simp_all[Instr.field,run_underlying,asAgg]
 cases h;cases h;cases h;cases h
def VG{l:List Operand}(a:∀x,Rel C S w (ev F x) (ρ x)):(l.map (ev F)).length=(l.toArray.map ρ).size/\∀(i:Nat) (c:PV) (v:Value),(l.map (ev F))[i]?=some c->(l.toArray.map ρ)[i]?=some v->Rel C S w c v:=EI
def fj{x:Option Operand}(a:∀x,Rel C S w (ev F x) (ρ x)):(∀p,x.map (ev F)=some p->∃v,x.map ρ=some v/\Rel C S w p v)/\(x.map (ev F)=none->x.map ρ=none):=by cases x<;>simp_all
def mq{v:Value}(a:Rel C S w x u)(hv:Rel C S w y v):
  (Wo qj x y=some p->∃r,(Builtin.min2 u v).run P w=.ok r w/\Rel C S w p r)/\(Wo qk x y=some p->∃r,(Builtin.max2 u v).run P w=.ok r w/\Rel C S w p r):=by
 constructor <;>
 .intro h;unfold Wo at h;split at h;cases h;cases a;cases hv;exact⟨_,rfl,.sc _⟩;cases h
def II{o:Oper}(h:uk P F o=some p)(hS:Sim C S w)(k:∀x,Rel C S w (ev F x) (ρ x)):
  ∃v w',(execOp ρ o).run P w=.ok (.value v) w'/\Rel C S w' p v/\Sim C S w'/\Step C S w C S w':=by
 have j:(∃v,(execOp ρ o).run P w=.ok (.value v) w/\Rel C S w p v)->∃v w',(execOp ρ o).run P w=.ok (.value v) w'/\Rel C S w' p v/\Sim C S w'/\Step C S w C S w' :=
  λ⟨v,h1,h2⟩=>⟨v,w,h1,h2,hS,.refl _ _ _⟩
 unfold uk at h;unfold execOp at j ⊢;cases ho:o.op<;>simp only[ho]at h j ⊢<;>try (cases h;done)
 case move x=>cases h;simp_all
 case assign x=>cases h;simp_all
 case pick c a b =>
  split at h;rename_i t hc;cases h;have:=k c;rw[hc]at this;generalize ρ c=v at this j ⊢;cases this;simp_all[asBool,IC];cases h
 case build t parts =>
  obtain⟨r,m,g⟩:=Iy (ev F) ρ k h;refine j ⟨r,?_,g⟩;have e:(parts.map λ(x:Nat × Operand)=>(x.1,ρ x.2))=(parts.toList.map λx=>(x.1,ρ x.2)).toArray:=by apply BX.1;simp
  simp_all
 case buildSlice t len parts =>
  split at h;rename_i e ht;obtain⟨cs,hl,rfl⟩:=An.1 h;obtain⟨vs,m,g,a0⟩:=fg ht (ev F) ρ k hl;have eq:(parts.map λ(x:Nat × Operand)=>(x.1,ρ x.2))=(parts.toList.map λx=>(x.1,ρ x.2)).toArray:=by apply BX.1;simp
  obtain⟨g1,g2,g3⟩:=hS.alloc (.cells vs e);refine⟨_,_,by simp only[Sem.run_bind];rw[eq,m];rfl,?_,g1,g2⟩;have n:len<=xx:=by unfold Ys at hl;split at hl;cases hl;split at hl;rename_i hc;obtain⟨_,_,c3,c4⟩:=hc;have:len*1<=len*P.cellsOf e:=Cp _ (Ci c3);unfold xx;omega;cases hl
  obtain⟨r1,r2,r3⟩:=g.mono g2;exact .lst1 (Af _) n (QP _ _) g3 (λ_=>by omega) (λi v _ hv=>r2 i v (by simpa using hv)) (λi q v hq hv=>r3 i q v hq (by simpa using hv));cases h
 case load t x =>
  split at h;rename_i cs hx;split at h
  .rename_i a1;cases hd:P.underlying t with
   |none=>simp_all
   |some d =>
   have:=k x;rw[hx]at this;generalize ρ x=v at this j ⊢;cases this with
   |ip hb hM hs h1 m =>
   obtain⟨r,a2,g⟩:=eZ hd hb hs h1 m h;simp_all[Instr.loadAt,Instr.sureAddr]
  cases h;cases h
 case nilCheck x =>
  have hx:=k x;unfold fi at h;generalize ρ x=v at hx j ⊢;split at h
  .rename_i s;cases h;rw[s]at hx j ⊢;cases hx with
   |ptr h1 h2 h3=>obtain⟨a,rfl⟩:=h1;exact j ⟨_,rfl,.ptr ⟨_,rfl⟩ h2 h3⟩
  .rename_i s;cases h;rw[s]at hx j ⊢;cases hx with
   |ip a b c d e=>exact j ⟨_,rfl,.ip a b c d e⟩
  .rename_i s;cases h;rw[s]at hx j ⊢;cases hx with
   |fn a b c d=>exact j ⟨_,rfl,.fn a b c d⟩
  cases h
 case binOp op t x y ty =>
  split at h;rename_i p' hp;cases h;obtain⟨r,m,g⟩:=It (w:=w) x y hp (k x) (k y);refine j ⟨r,?_,g⟩;rw[Sem.run_bind,m];rfl;obtain⟨r,m,g⟩:=IB (w:=w) x y h (k x) (k y);refine j ⟨r,?_,g⟩;rw[Sem.run_bind,m];rfl
 case unOp op t x =>
  obtain⟨r,m,g⟩:=IE (P:=P) h (k x);simp_all
 case convert src dst x =>
  obtain⟨r,m,g⟩:=IF h (k x);simp_all
 case makeInterface t x =>
  split at h;cases h;rename_i d a3 hd;cases h;refine j ⟨_,?_,.ifc (k x)⟩;simp_all[Instr.makeInterface,run_underlying];cases h
 case makeFunc fn first cap =>
  cases h;have h1:=VG (l:=first.toList) k;have h2:=VG (l:=cap.toList) k;simp only[Array.toArray_toList]at h1 h2;exact j ⟨_,rfl,.fn h1.1 h2.1 h1.2 h2.2⟩
 case slice t x lo hi mx =>
  obtain⟨r,m,g⟩:=IA h (k x) (fj k) (fj k) (fj k);simp_all
 case fieldAddr t x f =>
  obtain⟨r,m,g⟩:=Iv h (k x);simp_all
 case field t x f =>
  obtain⟨r,m,g⟩:=IH h (k x);simp_all
 case indexAddr t x i =>
  obtain⟨r,m,g⟩:=Iu h (k x) (k i);simp_all
 case index t x i =>
  obtain⟨r,m,g⟩:=IG h (k x) (k i);simp_all
 case extract t i =>
  split at h
  .rename_i ps hx;have:=k t;rw[hx]at this;generalize ρ t=v at this j ⊢;cases this with
   |tup hl m =>
   rename_i vs;obtain⟨hi,_⟩:=Ad.1 h;have u:vs[i]?=some (vs[i]' EA):=EB;exact j ⟨_,by simp[Instr.extract,u],m i p _ h u⟩
  cases h
 case call c =>
  unfold bQ at h;split at h;rename_i hc;split at h;rename_i x t hx ht;have z:c.args=#[x]:=by apply BX.1;simpa using hx
  have et:c.argTypes=#[t]:=by apply BX.1;simpa using ht
  obtain⟨r,m,g⟩:=ID (ty:=o.type) h (k x);refine j ⟨r,?_,g⟩;grind[resolve,invoke,builtin,Sem.run_bind,Sem.run_pure,Result.andThen_ok];cases h;rename_i hc;split at h;rename_i x y hx;have z:c.args=#[x,y]:=by apply BX.1;simpa using hx
  obtain⟨r,m,g⟩:=(mq (P:=P) (k x) (k y)).1 h;refine j ⟨r,?_,g⟩;simp only[resolve,hc,invoke,builtin,z,Sem.run_bind,Sem.run_pure,Aq,DV,Ap,A8,Builtin.min_,List.foldlM,m];cases h;rename_i hc;split at h;rename_i x y hx;have z:c.args=#[x,y]:=by apply BX.1;simpa using hx
  obtain⟨r,m,g⟩:=(mq (P:=P) (k x) (k y)).2 h;refine j ⟨r,?_,g⟩;simp only[resolve,hc,invoke,builtin,z,Sem.run_bind,Sem.run_pure,Aq,DV,Ap,A8,Builtin.max_,List.foldlM,m];cases h;cases h
end
structure Rd where
 round:Option Nat
 V:Ctx->Store->World->Prop
 keep:∀{C C':Ctx} {S S':Store} {w w':World},Step C S w C' S' w'->V C S w->V C' S' w'
def jI:Rd:=⟨none,λ_ _ _=>True,λ_ _=>trivial⟩
def Fe(r:Rd):Fence:={ Fence.wide with round:=r.round }
structure St (r:Rd) (C:Ctx) (S:Store) (w:World) (N:Nat) (F:Nat->PV) (a:Act):Prop where
 sim:Sim C S w
 size:a.tmps.size=N
 fr:∀i,Rel C S w (F i) (a.tmps.getD i undef)
 v:r.V C S w
variable {r:Rd}{F:Nat->PV}{a:Act}
theorem St.ev(h:St r C S w N F a)(x:Operand):Rel C S w (ev F x) (a.eval x):=by
 cases x with
 |tmp t=>exact h.fr t
 |const v=>exact bC v
 |global g=>exact .sc _
 |func f=>exact .fn rfl rfl EB EB
def IJ(a:Act)(d:Nat)(v:Value)(b:d<a.tmps.size)(i:Nat):(a.put (some d) v).tmps.getD i undef=if i=d then v else a.tmps.getD i undef:=by simp only[Act.put,Bj];grind
theorem St.put(h:St r C S w N F a)(st:Step C S w C' S' w')(hs:Sim C' S' w'){d:Option Nat}(c:∀x,d=some x->x<N){v:Value}
  (e:Rel C' S' w' p v):St r C' S' w' N (yg F d p) (a.put d v):=by
 cases d with
 |none=>exact⟨hs,h.size,λi=>(h.fr i).mono st,r.keep st h.v⟩
 |some d =>
 have b:d<a.tmps.size:=by rw[h.size];exact c d rfl
 refine⟨hs,by simp[Act.put,h.size],λi=>?_,r.keep st h.v⟩;rw[IJ a d v b];simp only[yg,vI];split;exact e;exact(h.fr i).mono st
def gd(ops:Array Oper)(F:Nat->PV)(o:Oper):Option Bool :=
 match o.guard with
 |none=>some true
 |some (j,want) =>
 match (ops[j]?).bind (·.dst) with
 |none=>some false
 |some d=>match F d with
  |.sc v=>match v with
   |.bool b=>some (b==want)
   |_=>some false
  |_=>none
def Ju{ops:Array Oper}{o:Oper}{b:Bool}(h:St r C S w N F a)(c:gd ops F o=some b):Region.wanted o (yielded ops a.tmps)=b:=by
 unfold gd at c;unfold Region.wanted;split at c;simp_all;rename_i j f hn;rw[hn];simp only;split at c;grind[yielded];rename_i d i;have g:=h.fr d;split at c;rename_i v hv;rw[hv]at g;generalize e:a.tmps.getD d undef=u at g;cases g;rw[Bj]at e;split at c
 .rename_i b';cases c;cases hx:a.tmps[d]? with
  |none=>rw[hx]at e;cases e
  |some y =>
  rw[hx]at e;simp only[Option.getD_some]at e;subst e;simp only[yielded,i,Cl,hx];cases b'<;>cases f<;>rfl
 grind[yielded];cases c
def Yt(P:Program)(t:TypeId)(S:Store)(x:PV):Option PV :=
 match x with
 |.ptr o ver off =>
  match S o with
  |.cells v _ cs=>if v=ver/\(P.underlying t).isSome=true then Z4 P t (cs.drop off) else none
  |_=>none
 |.ip cs=>if (P.underlying t).isSome=true then Z4 P t cs else none
 |_=>none
def mr(h:Yt P t S x=some p)(y:Sim C S w)(j:Rel C S w x u):∃r,(Instr.loadAt t u).run P w=.ok r w/\Rel C S w p r:=by
 unfold Yt at h;split at h;rename_i o ver off;split at h;rename_i v e cs hs;split at h
 .rename_i hc;obtain⟨rfl,f⟩:=hc;cases g:P.underlying t with
  |none=>simp_all
  |some d =>
  cases j with
  |ptr h1 h2 h3 =>
  obtain⟨b,k,hl,rfl⟩:=(h3 v (by rw[hs];rfl)).2 rfl;obtain⟨hn,_⟩|⟨b',k',c,g1,z,g3,g4,g5,g6⟩:=y.cells o v e cs hs;simp_all;rw[g1]at hl;cases hl;obtain⟨l,m,n⟩:=VF (k:=off) (o:=0) (c:=c) (cs:=cs) (λ_=>by omega) (λi v hi hv=>g5 i v hi (by simpa using hv)) (λi q v hq hv=>g6 i q v hq (by simpa using hv));rw[A3]at l m n;obtain⟨r,s,a⟩:=eZ (P:=P) (b:=b) g z l m n h;simp_all[Instr.loadAt,Instr.sureAddr]
 cases h;cases h;split at h
 .rename_i f;cases g:P.underlying t with
  |none=>simp_all
  |some d =>
  cases j with
  |ip hb hM hs h1 s =>
  obtain⟨r,a0,a⟩:=eZ g hb hs h1 s h;simp_all[Instr.loadAt,Instr.sureAddr]
 cases h;cases h
def yl(cs:List PV)(off:Nat)(ds:List PV):List PV:=cs.take off++ds++cs.drop (off+ds.length)
def Wq(P:Program)(t:TypeId)(S:Store)(x y:PV):Option Store :=
 match x with
 |.ptr o ver off =>
  match S o with
  |.cells v e cs=>if v=ver/\y.cells.length=P.cellsOf t/\P.cellsOf t≠0/\off+y.cells.length<=cs.length/\y.fit=true then some (S.set o (.cells v e (yl cs off y.cells))) else none
  |_=>none
 |_=>none
def IK{v:Value}(h:Wq P t S x y=some S')(hS:Sim C S w)(hu:Rel C S w x u)(hv:Rel C S w y v):
  ∃w' C',(Instr.storeAt t u v).run P w=.ok () w'/\Sim C' S' w'/\Step C S w C' S' w':=by
 unfold Wq at h;split at h;rename_i o ver off;split at h;rename_i vv e cs hs;split at h
 .rename_i hc;obtain⟨rfl,c1,c2,c3,c4⟩:=hc;cases h;cases hu with
  |ptr h1 h2 h3 =>
  obtain⟨b,k,hl,rfl⟩:=(h3 vv (by rw[hs];rfl)).2 rfl;obtain⟨hn,_⟩|⟨b',k',c,g1,g2,g3,g4,g5,g6⟩:=hS.cells o vv e cs hs;simp_all;rw[g1]at hl;cases hl;obtain⟨r1,r2,r3⟩:=hv.cells' c4;have n:∀z∈v.cells.toList,z.oneCell'=true:=by intro z a;obtain⟨i,hi⟩:=Co a;exact r2 i z (by rw[<-Array.getElem?_toList];exact hi)
  have q:off+0+v.cells.toList.length<=c.size:=by simp only[Array.length_toList];omega
  have d:=run_storeCells_at P b off e v.cells.toList 0 c w g2 q n;have a3:v.cells.toList.length=y.cells.length:=by simp[r1]
  simp only[BK]at d;generalize r:w.setRow b (c.toList.take off++v.cells.toList++c.toList.drop (off+v.cells.toList.length)).toArray=w' at d;have g:w'.heap[b]?=some (.cells (c.toList.take off++v.cells.toList++c.toList.drop (off+v.cells.toList.length)).toArray e (0,0)):=by rw[<-r];exact setRow_heap w b c _ e _ g2
  have a0:w.grownBy w' (some b)/\w.drawn<=w'.drawn:=by rw[<-r];exact⟨⟨rfl,rfl,rfl,by simp[World.setRow],λj hj a1=>setRow_other w b j _ (λe=>a1 (by rw[e]))⟩,Af _⟩
  have m:(c.toList.take off++v.cells.toList++c.toList.drop (off+v.cells.toList.length)).toArray.size=k:=by simp;omega
  obtain⟨t1,t2⟩:=hS.turn (l:=C.loc o) (ver':=vv) (cs':=yl cs off y.cells) hs (Af _) (λ_=>rfl) (by rw[g1];exact a0)
   (.inr ⟨b,k,_,g1,.inr (by rw[g1];rfl),g,m,by simp[yl];omega,λi z hi a=>by
     rw[AH]at a;by_cases s:i<off;rw[List.append_assoc,As EF,AP s]at a;exact g5 i z EA (by rw[<-Array.getElem?_toList];exact a);by_cases q2:i<off+v.cells.toList.length;rw[List.append_assoc,Am EF,Az,Bt EF,As EA]at a;exact r2 _ z (by rw[<-Array.getElem?_toList];exact a);rw[Am (by simp at q2 ⊢;omega),Ak,Az,Bt EF,AV]at a;have:off+v.cells.toList.length+(i-(off+v.cells.toList.length))=i:=EA;rw[this]at a;have a2:i<cs.length:=by simp[yl]at hi;omega
     exact g5 i z a2 (by rw[<-Array.getElem?_toList];exact a),
    λi p z f a=>by rw[AH]at a;unfold yl at f;by_cases s:i<off;rw[List.append_assoc,As EF,AP s]at a;rw[List.append_assoc,As EF,AP s]at f;exact g6 i p z f (by rw[<-Array.getElem?_toList];exact a);by_cases q2:i<off+v.cells.toList.length;rw[List.append_assoc,Am EF,Az,Bt EF,As EA]at a;rw[List.append_assoc,Am EF,Az,Bt EA,As EA]at f;exact r3 _ p z f (by rw[<-Array.getElem?_toList];exact a);rw[Am (by simp at q2 ⊢;omega),Ak,Az,Bt EF,AV]at a;rw[Am (by simp at q2 ⊢;omega),Ak,Az,Bt EA,AV]at f;have e1:off+v.cells.toList.length+(i-(off+v.cells.toList.length))=i:=EA;have e2:off+y.cells.length+(i-(off+y.cells.length))=i:=EA;rw[e1]at a;rw[e2]at f;exact g6 i p z f (by rw[<-Array.getElem?_toList];exact a)⟩)
  grind[Instr.storeAt,Instr.sureAddr,Sem.run_bind,Result.andThen_ok,storeVar,ui]
 cases h;cases h;cases h
def jC(P:Program)(F:Nat->PV)(S:Store)(o:Oper):Option (PV × Store) :=
 match o.op with
 |.load t x=>(Yt P t S (ev F x)).map λp=>(p,S)
 |.store t x y=>(Wq P t S (ev F x) (ev F y)).map λS'=>(.sc undef,S')
 |_=>none
def PO0(P:Program)(r:Rd)(n:Nat)(o:Oper)(F:Nat->PV)(S:Store)(K:PV->Store->Prop):Prop :=
 ∀(C:Ctx) (w:World) (a:Act) (N:Nat),St r C S w N F a->∀(next:Act->World->Prop) (Q:Exit->Act->World->Prop),
  (∀v w' C' S' p,K p S'->Rel C' S' w' p v->Sim C' S' w'->Step C S w C' S' w'->next (a.put o.dst v) w')->o.wpIn (Fe r) n P a w next Q
def PO(P:Program)(r:Rd)(n:Nat)(o:Oper)(F:Nat->PV)(S:Store)(K:PV->Store->Prop):Prop :=
 ∀G:Nat->PV,(∀x∈o.op.operands,ev G x=ev F x)->PO0 P r n o G S K
def IL{G:Nat->PV}{o:Oper}(h:∀x∈o.op.operands,ev G x=ev F x):uk P G o=uk P F o:=by
 unfold uk;cases ho:o.op<;>simp only[ho]at h ⊢;case move x=>simp_all[Op.operands]
 case assign x=>simp_all[Op.operands]
 case pick c a b=>simp_all[Op.operands]
 case build t parts =>
  grind[List.map_congr_left,Op.operands]
 case buildSlice t len parts =>
  grind[List.map_congr_left,Op.operands]
 case load t x=>simp_all[Op.operands]
 case nilCheck x=>simp_all[Op.operands]
 case binOp op t x y ty=>simp_all[Op.operands]
 case unOp op t x=>simp_all[Op.operands]
 case convert src dst x=>simp_all[Op.operands]
 case makeInterface t x=>simp_all[Op.operands]
 case makeFunc fn first cap =>
  simp_all[Op.operands]
 case slice t x lo hi mx =>
  have e:∀(y:Option Operand),(∀z,y=some z->ev G z=ev F z)->y.map (ev G)=y.map (ev F):=by
   intro y d;cases y with
   |none=>rfl
   |some z=>simp[d z rfl]
  simp_all[Op.operands]
 case fieldAddr t x f=>simp_all[Op.operands]
 case field t x f=>simp_all[Op.operands]
 case indexAddr t x i=>simp_all[Op.operands]
 case index t x i=>simp_all[Op.operands]
 case extract t i=>simp_all[Op.operands]
 case call c =>
  have g:∀x∈c.args.toList,ev G x=ev F x:=λx hx=>h x (by simp only[Op.operands,Call.operands,Array.mem_append];exact .inr (Cn.1 hx));grind[bQ]
def IM{G:Nat->PV}{o:Oper}(h:∀x∈o.op.operands,ev G x=ev F x):jC P G S o=jC P F S o:=by grind[jC,Op.operands]
def qx{o:Oper}{x:Next}{next:Act->World->Prop}{Q:Exit->Act->World->Prop}(b:∀c,o.op≠.defer c)
  (d:(execOp a.eval o).run P w=.ok x w') (h:o.uponIn (Fe r) n P a next Q (.ok x w')):o.wpIn (Fe r) n P a w next Q:=by
 refine⟨λ_ _=>trivial,?_⟩;simp_all[Oper.semAt_eq]
variable {K:PV->Store->Prop}
theorem bT{o:Oper}(h:uk P F o=some p)(f:K p S):PO P r n o F S K:=by
 intro G g;rw[<-IL g]at h;intro C w a N st next Q b;obtain⟨v,w',d,e,hs,c⟩:=II h st.sim st.ev;refine qx ?_ d (b v w' C S p f e hs c)
 grind[uk]
theorem Wr{o:Oper}(h:jC P F S o=some (p,S'))(k:K p S'):PO P r n o F S K:=by
 intro G l;rw[<-IM l]at h;intro C w a N st next Q b;have e:∀c,o.op≠.defer c:=by intro c hc;simp[jC,hc]at h
 unfold jC at h;split at h;rename_i t x ho;obtain⟨q,i,j⟩:=An.1 h;cases j;obtain⟨v,f,g⟩:=mr i st.sim (st.ev x);refine qx (x:=.value v) (w':=w) e ?_ (b v w C S p k g st.sim (.refl _ _ _));simp_all[execOp];rename_i t x y ho;obtain⟨q,i,j⟩:=An.1 h;cases j;obtain⟨w',C',f,hs,d⟩:=IK i st.sim (st.ev x) (st.ev y);refine qx (x:=.skip) (w':=w') e ?_ (b undef w' C' S' _ k (.sc _) hs d);simp_all[execOp];cases h
def bU(H:List Nat)(o:Oper):Bool :=
 match o.dst with
 |some d=>H.contains d
 |none=>false
def ZB(P:Program)(r:Rd)(n:Nat)(H:List Nat)(ops:Array Oper):List Oper->(Nat->PV)->Store->((Nat->PV)->Store->Prop)->Prop
 |[],F,S,K=>K F S
 |o::os,F,S,K =>
  match gd ops F o with
  |none=>False
  |some false=>ZB P r n H ops os (yg F o.dst (.sc undef)) S K
  |some true =>
  if bU H o=true then PO P r n o F S (λp S'=>ZB P r n H ops os (yg F o.dst p) S' K) else
  match uk P F o with
  |some p=>ZB P r n H ops os (yg F o.dst p) S K
  |none =>
  match jC P F S o with
  |some (p,S')=>ZB P r n H ops os (yg F o.dst p) S' K
  |none=>PO P r n o F S (λp S'=>ZB P r n H ops os (yg F o.dst p) S' K)
def Marks(n0:Nat)(C:Ctx)(S:Store)(w:World):List Deferred->Prop
 |[]=>True
 |d::ds=>(∃D,n0<=D/\d={ target:=.collected D,args:=#[] }/\w.heap[D]?=some (.deferred (some []))/\¬C.M S D/\∀d'∈ds,d'≠d)/\Marks n0 C S w ds
theorem Marks.mono{a:Nat}(st:Step C S w C' S' w'):∀{ds:List Deferred},Marks a C S w ds->Marks a C' S' w' ds
 |[],_=>trivial
 |_::_,⟨⟨D,h1,h2,h3,b,c⟩,h⟩=>by obtain⟨k1,d⟩:=st.blocks D (qX h3) b;exact⟨⟨D,h1,h2,k1.trans h3,d,c⟩,Marks.mono st h⟩
theorem Marks.mem:∀{ds:List Deferred},Marks b C S w ds->∀d∈ds,∃D,b<=D/\D<w.heap.size/\d={ target:=.collected D,args:=#[] }
 |_::ds,⟨⟨D,h1,h2,h3,_,_⟩,h⟩,d,a=>by obtain rfl|a:=Al.1 a;exact⟨D,h1,qX h3,h2⟩;exact Marks.mem h d a
variable {ms:List Deferred}
theorem Marks.app{a:Nat}(hn:a<=o)(hm:Marks a C S w ms)(b:∀d∈ms,∃D,D<o/\d={ target:=.collected D,args:=#[] }):
  ∀{ds:List Deferred},Marks o C S w ds->Marks a C S w (ds++ms)
 |[],_=>hm
 |d::ds,⟨⟨D,h1,h2,h3,e,f⟩,h⟩=>by refine⟨⟨D,AF hn h1,h2,h3,e,λg c=>?_⟩,Marks.app hn hm b h⟩;obtain q|q:=AB.1 c<;>grind
def Defs(n0:Nat)(ds:List Deferred)(C:Ctx)(S:Store)(w:World)(ds':List Deferred):Prop:=∃ms,ds'=ms++ds/\Marks n0 C S w ms
theorem Defs.of_eq{a:Nat}{ds:List Deferred}(h:ms=ds):Defs a ds C S w ms:=⟨[],h,trivial⟩
theorem Defs.trans{c:Nat}{ds a:List Deferred}{b:World}(h1:Defs c ds C S b a)(st:Step C S b C' S' w)(hn:c<=b.heap.size)(h2:Defs b.heap.size a C' S' w ms):Defs c ds C' S' w ms:=by obtain⟨f,rfl,i⟩:=h1;obtain⟨g,rfl,j⟩:=h2;refine⟨g++f,by simp,Marks.app hn (i.mono st) (λd k=>?_) j⟩;obtain⟨D,_,h,e⟩:=i.mem d k;simp_all
def PW(P:Program)(r:Rd)(n N:Nat)(c:Code)(Q:Exit->(Nat->PV)->Store->Prop)(F:Nat->PV)(S:Store):Prop :=
 ∀(C:Ctx) (w:World) (a:Act),St r C S w N F a->c.wpIn (Fe r) n P (λe a' w'=>∃F' S' C',Q e F' S'/\St r C' S' w' N F' a'/\Defs w.heap.size a.defers C' S' w' a'.defers/\Step C S w C' S' w') a w
section rules
variable {P:Program} {r:Rd} {n N:Nat} {Q:Exit->(Nat->PV)->Store->Prop} {F:Nat->PV} {S:Store}
def fk(k m:Nat)(h:k<m):(List.range m).drop k=k::(List.range m).drop (k+1):=by simp_all[AG]
def VH(a:Act)(d:Option Nat)(v:Value):(a.put d v).defers=a.defers:=by cases d<;>rfl
variable {ops:Array Oper}
def IN{H:List Nat}{Q':Exit->Act->World->Prop}(q:∀o∈ops,∀d,o.dst=some d->d<N){K:(Nat->PV)->Store->Prop}{C0:Ctx}{S0:Store}{w0:World}{ds:List Deferred}
  (s:∀F' S' C' w' a',K F' S'->St r C' S' w' N F' a'->a'.defers=ds->Step C0 S0 w0 C' S' w'->Q' .normal a' w') :
  ∀(m k:Nat) (F:Nat->PV) (S:Store) (C:Ctx) (w:World) (a:Act),ops.size-k=m->ZB P r n H ops (ops.toList.drop k) F S K->St r C S w N F a->a.defers=ds->Step C0 S0 w0 C S w ->
   wpOpsIn (Fe r) n P ops Q' ((List.range ops.size).drop k) a w:=by
 intro m;induction m with
 |zero =>
 intro k F S C w a hm h st g step;have t:(List.range ops.size).drop k=[]:=BW EF;have e2:ops.toList.drop k=[]:=BW EF;rw[t];rw[e2]at h;exact s F S C w a h st g step
 |succ m j =>
 intro k F S C w a hm h st g step;have l:k<ops.size:=EA;rw[fk k _ l];have e2:ops.toList.drop k=ops[k]::ops.toList.drop (k+1):=by rw[AG EA];simp
 rw[e2]at h;have e:ops[k]?=some ops[k]:=EB;have c:∀x,ops[k].dst=some x->x<N:=q _ (DM l);rw[wpOpsIn_cons];unfold wpOpIn;rw[e];dsimp only;simp only[ZB]at h;split at h;exact h.elim;rename_i i;rw[Ju st i];simp only[A7,if_false];exact⟨λ_ _=>trivial,j (k+1) _ _ C w _ EA h (st.put (.refl _ _ _) st.sim c (.sc _)) (by simp_all[VH]) step⟩;rename_i i;rw[Ju st i];simp only[if_true];have y:PO P r n ops[k] F S (λp S'=>ZB P r n H ops (ops.toList.drop (k+1)) (yg F ops[k].dst p) S' K)->Oper.wpIn (Fe r) n P ops[k] a w (wpOpsIn (Fe r) n P ops Q' ((List.range ops.size).drop (k+1))) Q':=λhpo =>
  hpo F (λ_ _=>rfl) C w a N st _ _ (λv w' C' S' p u f hs b=>j (k+1) _ _ C' w' _ EA u (st.put b hs c f) (by rw[VH];exact g) (step.trans b))
 grind[bT,Wr]
def ul(N:Nat)(ops:Array Oper):Bool:=ops.toList.all λo=>match o.dst with|some d=>Nat.blt d N|none=>true
def bV(h:ul N ops=true):∀o∈ops,∀d,o.dst=some d->d<N:=by grind[ul,Nat.blt_eq]
def mu{id:Nat}(H:List Nat)(d:ul N ops=true)(h:ZB P r n H ops ops.toList F S (Q .normal)):PW P r n N (.region id ops false) Q F S:=by
 intro C w a st;refine wpIn_region ?_;have:=IN (H:=H) (Q':=λe a' w'=>∃F' S' C',Q e F' S'/\St r C' S' w' N F' a'/\Defs w.heap.size a.defers C' S' w' a'.defers/\Step C S w C' S' w') (bV d)
  (λF' S' C' w' a' f c g b=>⟨F',S',C',f,c,.of_eq g,b⟩) ops.size 0 F S C w a rfl (K:=Q .normal) (by simpa using h) st rfl (.refl _ _ _)
 simpa using this
def QQ(K:(Nat->PV)->Store->Prop)(Q:Exit->(Nat->PV)->Store->Prop):Exit->(Nat->PV)->Store->Prop
 |.normal,F,S=>K F S
 |e,F,S=>Q e F S
def VI{c:Code}{Q':Exit->(Nat->PV)->Store->Prop}(h:PW P r n N c Q F S)(b:∀e F S,Q e F S->Q' e F S):PW P r n N c Q' F S:=by intro C w a st;exact wpIn_mono (h C w a st) λe a' w' ⟨F',S',C',h1,h2⟩=>⟨F',S',C',b _ _ _ h1,h2⟩
def za{x y:Code}(h:PW P r n N x (QQ (PW P r n N y Q) Q) F S):PW P r n N (.seq x y) Q F S:=by
 intro C w a st;refine wpIn_seq (wpIn_mono (h C w a st) ?_);rintro e a' w' ⟨F',S',C',d,c,f,b⟩;cases e with
 |normal =>
 refine wpIn_mono (d C' w' a' c) ?_;rintro e i w'' ⟨F2,S2,C2,h1,h2,h3,g⟩;exact⟨F2,S2,C2,h1,h2,f.trans g b.size h3,b.trans g⟩
 |_=>exact⟨F',S',C',d,c,f,b⟩
def zh(h:Q .normal F S):PW P r n N .skip Q F S:=λC _ _ st=>wpIn_skip ⟨F,S,C,h,st,.of_eq rfl,.refl _ _ _⟩
def zx{id:Nat}(h:Q (.exit id) F S):PW P r n N (.exit id) Q F S:=λC _ _ st=>wpIn_exit ⟨F,S,C,h,st,.of_eq rfl,.refl _ _ _⟩
def zg(h:Q .ret F S):PW P r n N .ret Q F S:=λC _ _ st=>wpIn_ret ⟨F,S,C,h,st,.of_eq rfl,.refl _ _ _⟩
def zv{c:Operand}{x y:Code}{t:Bool}(hc:ev F c=.sc (.bool t))(h1:t=true->PW P r n N x Q F S)(h2:t=false->PW P r n N y Q F S):PW P r n N (.cond c x y) Q F S:=by intro C w a st;have:=st.ev c;rw[hc]at this;generalize hv:a.eval c=v at this;cases this;exact wpIn_cond_split hv (λe=>h1 e C w a st) (λe=>h2 e C w a st)
def xh(id:Nat)(Q:Exit->(Nat->PV)->Store->Prop):Exit->(Nat->PV)->Store->Prop
 |.exit id',F,S=>if id'=id then Q .normal F S else Q (.exit id') F S
 |e,F,S=>Q e F S
def zj{id:Nat}{c:Code}(h:PW P r n N c (xh id Q) F S):PW P r n N (.block id c) Q F S:=by intro C w a st;refine wpIn_block (wpIn_mono (h C w a st) ?_);rintro e a' w' ⟨F',S',C',b,rest⟩;cases e<;>grind[xh,Exit.inBlock]
def aA{id:Nat}{c y:Code}(h:PW P r n N c (xh id (QQ (PW P r n N y Q) Q)) F S):PW P r n N (.seq (.block id c) y) Q F S:=za (zj h)
def aB{x y:Code}(h:PW P r n N x (QQ (PW P r n N y Q) Q) F S):PW P r n N .skip (QQ (PW P r n N (.seq x y) Q) Q) F S:=zh (za h)
def fm{c:Code}(I:(Nat->PV)->Store->Nat->Prop)(m0:Nat)(h0:I F S m0)(round:∀m F S,I F S m->PW P r n N c (QQ (λF' S'=>∃v,I F' S' v/\v<m) Q) F S):PW P r n N (.loop c) Q F S:=by
 intro C w a st b k cs y hb z;have key:∀j F1 S1 C1 s u,I F1 S1 j->St r C1 S1 s N F1 u->Defs w.heap.size a.defers C1 S1 s u.defers->Step C S w C1 S1 s ->
   ∃e a' w',(∃F' S' C',Q e F' S'/\St r C' S' w' N F' a'/\Defs w.heap.size a.defers C' S' w' a'.defers/\Step C S w C' S' w')/\ArrivesIn (Machine.fenced P (Fe r)) P (lone (b.atR u (.code c::.inLoop c::k)) cs s) b k cs e a' w':=by
  intro j;induction j using Nat.strongRecOn with
  |_ j ih =>
  intro F1 S1 C1 s u hI a0 h d;obtain⟨e,t,w2,⟨F2,S2,C2,p,i,o,f⟩,g⟩:=round j F1 S1 hI C1 s u a0 b (.inLoop c::k) cs y hb z;cases e with
  |normal =>
  obtain⟨v,a4,a5⟩:=p;obtain⟨e3,a3,w3,a6,q⟩:=ih v a5 F2 S2 C2 w2 t a4 i (h.trans f d.size o) (d.trans f);exact⟨e3,a3,w3,a6,.of_steps (StepsIn.trans g (.one (fenced_calm hb z rfl) stepR_inLoop)) q⟩
  |exit id=>exact⟨_,t,w2,⟨F2,S2,C2,p,i,h.trans f d.size o,d.trans f⟩,.pass (x:=.inLoop c) rfl (λ_ _=>.inl EB) g⟩
  |goto l=>exact⟨_,t,w2,⟨F2,S2,C2,p,i,h.trans f d.size o,d.trans f⟩,.pass (x:=.inLoop c) rfl (λ_ _=>.inl EB) g⟩
  |ret=>exact⟨_,t,w2,⟨F2,S2,C2,p,i,h.trans f d.size o,d.trans f⟩,.pass (x:=.inLoop c) rfl (λ_ _=>.inl EB) g⟩
  |panic ch=>exact⟨_,t,w2,⟨F2,S2,C2,p,i,h.trans f d.size o,d.trans f⟩,.pass (x:=.inLoop c) rfl (λ_ _=>.inl EB) g⟩
  |outgrown=>exact⟨_,t,w2,⟨F2,S2,C2,p,i,h.trans f d.size o,d.trans f⟩,.pass (x:=.inLoop c) rfl (λ_ _=>.inl EB) g⟩
 obtain⟨e,a',w',p,g⟩:=key m0 F S C w a h0 st (.of_eq rfl) (.refl _ _ _);exact⟨e,a',w',p,.of_steps (.one (fenced_calm hb z rfl) stepR_loop) g⟩
end rules
def uL(o:Oper):List Nat:=(o.after.toList.filter (Region.binds .any)).map (·.on)
def ZC(ops:Array Oper)(o:Oper):List Nat :=
 (o.op.operands.toList.filterMap fun|.tmp t=>some t|_=>none) ++
 (match o.guard with
  |none=>[]
  |some (j,_)=>match (ops[j]?).bind (·.dst) with|some d=>[d]|none=>[])
def bW:List Oper->List (List Nat)->List (List Nat)
 |[],acc=>acc
 |o::os,acc=>bW os (acc++[((uL o).flatMap λe=>e::acc.getD e []).eraseDups])
def Xo(ops:Array Oper):List (List Nat):=bW ops.toList []
def mw(ops:Array Oper)(A:List (List Nat))(i j:Nat):Bool :=
 match ops[i]?,ops[j]? with
 |some oi,some oj =>
  match oj.dst with
  |none=>true
  |some d =>
  if i=j then !(ZC ops oi).contains d
  else decide (oi.dst≠some d)&&(!(ZC ops oi).contains d||(if j<i then (A.getD i []).contains j else (A.getD j []).contains i))
 |_,_=>true
def Xp(ops:Array Oper):Bool :=
 let A:=Xo ops
 (List.range ops.size).all λi =>
  (match ops[i]? with|some o=>(uL o).all (·<i)|none=>true) &&
  (List.range ops.size).all λj=>mw ops A i j
inductive Row where
 |done
 |pure (i:Nat) (r:Row)
 |alt (i:Nat) (r more:Row)
 |stop
def Row.pures:List Nat->Row->Row
 |[],r=>r
 |i::is,r=>.pure i (Row.pures is r)
def Row.chain:Row->Bool
 |.alt _ _ _=>true
 |.stop=>true
 |_=>false
def QR(ops:Array Oper)(pre:List Nat)(i:Nat):Bool :=
 match ops[i]? with
 |some o=>(uL o).all (pre.contains ·)&&!pre.contains i
 |none=>false
def wR(ops:Array Oper):List Nat->List Nat->Row->Bool
 |pre,_,.done=>(List.range ops.size).all (pre.contains ·)
 |pre,_,.pure i r=>QR ops pre i&&wR ops (i::pre) [] r
 |pre,acc,.alt i r more=>QR ops pre i&&wR ops (i::pre) [] r&&wR ops pre (i::acc) more&&more.chain
 |pre,acc,.stop=>!acc.isEmpty&&(List.range ops.size).all λj=>pre.contains j||acc.contains j||!QR ops pre j
def Xq(ops:Array Oper)(L:Nat->Prop):Prop:=∀j o,L j->ops[j]?=some o->∀e∈uL o,L e
theorem my(L:Nat->Prop)(a:List Oper)(t:∀j o,L j->a[j]?=some o->∀e∈uL o,L e):
  ∀(l:List Oper) (pre:List Oper) (b:List (List Nat)),a=pre++l->b.length=pre.length ->
   (∀(j:Nat) (o:List Nat),b[j]?=some o->∀p,a[j]?=some p->(∀e∈uL p,L e)->∀k∈o,L k) ->
   ∀(j:Nat) (o:List Nat),(bW l b)[j]?=some o->∀p,a[j]?=some p->(∀e∈uL p,L e)->∀k∈o,L k
 |[],_,_,_,_,h=>h
 |x::xs,pre,b,d,hl,h=>by
  simp only[bW];refine my L a t xs (pre++[x]) _ (by rw[d];simp) (by simp[hl]) ?_;intro j o f p r u k c;by_cases v:j<b.length;grind;rw[Am EA]at f;have g:j=b.length:=by obtain q|q:=Bo (j-b.length) 1;omega;grind
  subst g;simp only[Bs,Bp,Option.some.injEq]at f;subst f;have i:p=x:=by rw[d,Am EA,hl,Bs]at r;simpa using r.symm
  subst i;rw[List.mem_eraseDups,By]at c;obtain⟨e,m,c⟩:=c;rw[Al]at c;obtain rfl|c:=c;exact u k m;cases s:b[e]? with
  |none=>simp_all
  |some w =>
  rw[List.getD_eq_getElem?_getD,s]at c;have n:∃q,a[e]?=some q:=by have:e<b.length:=(Ad.1 s).1;exact⟨_,Ac (by rw[d];simp;omega)⟩
  obtain⟨q,y⟩:=n;grind
variable {j k:Nat}
def fp{ops:Array Oper}{L:Nat->Prop}(a:Xq ops L){o:Oper}(ho:ops[j]?=some o)(b:∀e∈uL o,L e)(c:k∈(Xo ops).getD j []):L k:=by have:=my L ops.toList (λj o h1 h2=>a j o h1 (by rw[<-Array.getElem?_toList];exact h2)) ops.toList [] [] EB rfl (λj o h=>by cases h);grind[Xo]
section
variable {P:Program} {r:Rd} {n N:Nat} {Q:Exit->(Nat->PV)->Store->Prop} {F:Nat->PV} {S:Store}
def yY(ids:Option (List Nat))(S0 S:Store):Prop :=
 match ids with
 |none=>S=S0
 |some l=>∀x∈l,S x=S0 x
def Xr(P:Program)(ids:Option (List Nat))(S0:Store)(F:Nat->PV)(o:Oper):Option PV :=
 match o.op with
 |.load t x =>
  match ev F x with
  |.ptr id ver off =>
   match ids with
   |none=>Yt P t S0 (.ptr id ver off)
   |some l=>if id∈l then Yt P t S0 (.ptr id ver off) else none
  |_=>none
 |_=>none
variable {ids:Option (List Nat)}
theorem IP{S0:Store}{o:Oper}(h:Xr P ids S0 F o=some p)(S':Store)(a:yY ids S0 S'):PO P r n o F S' (λq S''=>q=p/\S''=S'):=by
 unfold Xr at h;split at h;rename_i t x ho;split at h;rename_i id ver off hx;have hl:Yt P t S' (.ptr id ver off)=some p:=by
  cases ids with
  |none=>cases a;exact h
  |some l =>
  simp only at h;split at h;rename_i hm;have:=a id hm;simp_all[Yt];cases h
 exact Wr (p:=p) (S':=S') (by simp_all[jC]) ⟨rfl,rfl⟩;cases h;cases h
def PX(P:Program)(r:Rd)(n:Nat)(ops:Array Oper)(ids:Option (List Nat))(S0:Store):Row->(Nat->PV)->Store->((Nat->PV)->Store->Prop)->Prop
 |.done,F,S,K=>K F S
 |.stop,_,_,_=>True
 |.pure i is,F,S,K =>
  match ops[i]? with
  |none=>False
  |some o =>
  match gd ops F o with
  |none=>False
  |some false=>PX P r n ops ids S0 is (yg F o.dst (.sc undef)) S K
  |some true =>
  match uk P F o with
  |some p=>PX P r n ops ids S0 is (yg F o.dst p) S K
  |none =>
  match Xr P ids S0 F o with
  |some p=>PX P r n ops ids S0 is (yg F o.dst p) S K
  |none=>∃p,(∀S',yY ids S0 S'->PO P r n o F S' (λq S''=>q=p/\S''=S'))/\PX P r n ops ids S0 is (yg F o.dst p) S K
 |.alt i is more,F,S,K =>
  (match ops[i]? with
  |none=>False
  |some o =>
   match gd ops F o with
   |none=>False
   |some false=>PX P r n ops ids S0 is (yg F o.dst (.sc undef)) S K
   |some true =>
   match jC P F S o with
   |some (p,S')=>yY ids S0 S'/\PX P r n ops ids S0 is (yg F o.dst p) S' K
   |none=>PO P r n o F S (λp S'=>yY ids S0 S'/\PX P r n ops ids S0 is (yg F o.dst p) S' K)) /\
  PX P r n ops ids S0 more F S K
def VJ(ops:Array Oper)(val:Nat->PV)(F0:Nat->PV)(j:Nat)(o:Oper)(G:Nat->PV):Prop :=
 ∀t∈ZC ops o,(∀j' o',ops[j']?=some o'->o'.dst=some t->j'<j->G t=val j')/\((∀j' o',ops[j']?=some o'->o'.dst=some t->¬j'<j)->G t=F0 t)
def VK(ops:Array Oper)(val:Nat->PV)(F0:Nat->PV)(L:Nat->Prop)(G:Nat->PV):Prop :=
 ∀t,(∀j o,L j->ops[j]?=some o->o.dst=some t->G t=val j)/\((∀j o,L j->ops[j]?=some o->o.dst≠some t)->G t=F0 t)
structure RegOk (ops:Array Oper):Prop where
 edge:∀(i:Nat) (o:Oper),ops[i]?=some o->∀e∈uL o,e<i
 dst:∀(i j:Nat) (oi oj:Oper) (d:Nat),ops[i]?=some oi->ops[j]?=some oj->i≠j->oi.dst=some d->oj.dst≠some d
 self:∀(i:Nat) (o:Oper) (d:Nat),ops[i]?=some o->o.dst=some d->d ∉ ZC ops o
 before:∀(i j:Nat) (oi oj:Oper) (d:Nat),ops[i]?=some oi->ops[j]?=some oj->oj.dst=some d->d∈ZC ops oi->j<i->j∈(Xo ops).getD i []
 behind:∀(i j:Nat) (oi oj:Oper) (d:Nat),ops[i]?=some oi->ops[j]?=some oj->oj.dst=some d->d∈ZC ops oi->i<j->i∈(Xo ops).getD j []
variable {ops:Array Oper}
def IQ(h:Xp ops=true):RegOk ops:=by
 unfold Xp at h;simp only[Ay,AN,Aw]at h;have lt:∀{i o},ops[i]?=some o->i<ops.size:=λh=>(Bn.1 h).1;have a:∀{i j oi oj d},ops[i]?=some oi->ops[j]?=some oj->oj.dst=some d ->
   (if i=j then !(ZC ops oi).contains d else decide (oi.dst≠some d)&&(!(ZC ops oi).contains d||(if j<i then ((Xo ops).getD i []).contains j else ((Xo ops).getD j []).contains i)))=true:=by
  intro i j oi oj d hi b c;have:=(h i (lt hi)).2 j (lt b);unfold mw at this;rw[hi,b]at this;simp only[c]at this;exact this
 refine⟨?_,?_,?_,?_,?_⟩;grind;grind;grind;intro i j oi oj d hi b c e f;have:=a hi b c;rw[if_neg EA]at this;grind;intro i j oi oj d hi b c e f;have:=a hi b c;rw[if_neg EA]at this;grind
variable {F0 G:Nat->PV}{E:Nat->Prop}
def bX(R:RegOk ops){val:Nat->PV}(c:Xq ops E)(h:VK ops val F0 E G){i:Nat}{o:Oper}(hi:ops[i]?=some o)(hn:¬E i)
  (l:∀e∈uL o,E e):VJ ops val F0 i o G:=by
 intro t k;refine⟨λj o' a b d=>?_,λf=>?_⟩;exact(h t).1 j o' (fp c hi l (R.before i j o o' t hi a b k d)) a b;refine(h t).2 λj o' g a b=>?_;have h1:=f j o' a b;obtain q|q:=Bo i j;exact hn (fp c a (c j o' g a) (R.behind i j o o' t hi a b k q));grind
def mA{val:Nat->PV}{i:Nat}{o:Oper}(h:VJ ops val F0 i o G)(h':VJ ops val F0 i o F):∀t∈ZC ops o,G t=F t:=by intro t b;by_cases hx:∃j o',ops[j]?=some o'/\o'.dst=some t/\j<i;obtain⟨j,o',h1,h2,h3⟩:=hx;rw[(h t b).1 j o' h1 h2 h3,(h' t b).1 j o' h1 h2 h3];have a:∀j' o',ops[j']?=some o'->o'.dst=some t->¬j'<i:=λj' o' h1 h2 h3=>hx ⟨j',o',h1,h2,h3⟩;rw[(h t b).2 a,(h' t b).2 a]
def mB{o:Oper}(h:∀t∈ZC ops o,G t=F t):∀x∈o.op.operands,ev G x=ev F x:=by
 intro x hx;cases x with
 |tmp t =>
 refine h t ?_;unfold ZC;rw[AB];left;rw[Cv];exact⟨.tmp t,Cn.2 hx,rfl⟩
 |_=>rfl
def bY{o:Oper}(h:∀t∈ZC ops o,G t=F t):gd ops G o=gd ops F o:=by grind[gd,ZC]
def fq(P:Program)(r:Rd)(n:Nat)(ops:Array Oper)(T:Store->Prop)(val F0:Nat->PV)(j:Nat):Prop :=
 ∃o,ops[j]?=some o/\∀G,VJ ops val F0 j o G->(gd ops G o=some false/\val j=.sc undef)\/(gd ops G o=some true/\∀S',T S'->PO P r n o G S' (λq S''=>q=val j/\S''=S'))
def IR{o:Oper}(h:PO P r n o F S K)(b:∀x∈o.op.operands,ev G x=ev F x):PO P r n o G S K :=
 λG' a=>h G' (λx hx=>(a x hx).trans (b x hx))
def bZ(R:RegOk ops){val:Nat->PV}(h:VK ops val F0 E G){i:Nat}{o:Oper}(hi:ops[i]?=some o){val':Nat->PV}(k:val' i=p)(hv:∀j,E j->val' j=val j):
  VK ops val' F0 (λj=>j=i\/E j) (yg G o.dst p):=by
 intro t;by_cases f:o.dst=some t;rw[f];simp only[yg,vI,if_pos];refine⟨λj oj a ho b=>?_,λc=>absurd f (c i o (.inl rfl) hi)⟩;obtain rfl|a:=a;exact k.symm;by_cases g:j=i;simp_all;exact absurd b (R.dst i j o oj t hi ho (λe=>g e.symm) f);have e:yg G o.dst p t=G t:=by
  cases l:o.dst with
  |none=>rfl
  |some d=>simp only[yg,vI];grind
 rw[e];refine⟨λj oj a ho b=>?_,λc=>(h t).2 λj oj a ho=>c j oj (.inr a) ho⟩;obtain rfl|a:=a;simp_all;rw[hv j a];exact(h t).1 j oj a ho b
variable {val':Nat->PV}
def mC(R:RegOk ops){T:Store->Prop}{val:Nat->PV}(b:Xq ops E)(hv:∀j,E j->val' j=val j)(c:E j)(h:fq P r n ops T val F0 j):fq P r n ops T val' F0 j:=by obtain⟨o,ho,h⟩:=h;refine⟨o,ho,λG d=>?_⟩;rw[hv j c];refine h G λt a=>⟨λj' o' h1 h2 h3=>?_,(d t a).2⟩;have hl:E j':=fp b ho (b j o c ho) (R.before j j' o o' t ho h1 h2 a h3);rw[<-hv j' hl];exact(d t a).1 j' o' h1 h2 h3
structure Mid (P:Program) (r:Rd) (n:Nat) (ops:Array Oper) (ids:Option (List Nat)) (S0:Store) (F0:Nat->PV) (K:(Nat->PV)->Store->Prop) (E:Nat->Prop) (G:Nat->PV) (S:Store) (val:Nat->PV) (pre:List Nat) (row:Row) (Fp:Nat->PV):Prop where
 closedE:Xq ops E
 closedP:Xq ops (·∈pre)
 frmE:VK ops val F0 E G
 frmP:VK ops val F0 (·∈pre) Fp
 sub:∀j,E j->j∈pre
 evid:∀j,j∈pre->¬E j->fq P r n ops (yY ids S0) val F0 j
 px:PX P r n ops ids S0 row Fp S K
 af:wR ops pre [] row=true
 t:yY ids S0 S
variable {pre:List Nat}
theorem cd{i:Nat}(h:QR ops pre i=true):∃o,ops[i]?=some o/\(∀e∈uL o,e∈pre)/\i ∉ pre:=by grind[QR]
variable {rest:Row}
def mD(R:RegOk ops){S0:Store}{K:(Nat->PV)->Store->Prop}{val:Nat->PV}{i:Nat}{o:Oper}
  (h:Mid P r n ops ids S0 F0 K E G S val pre (.pure i rest) F) (ho:ops[i]?=some o)  (hx:PX P r n ops ids S0 rest (yg F o.dst p) S K)
  (m:(gd ops F o=some false/\p=.sc undef)\/(gd ops F o=some true/\∀S',yY ids S0 S'->PO P r n o F S' (λq S''=>q=p/\S''=S'))) :
  Mid P r n ops ids S0 F0 K E G S (λj=>if j=i then p else val j) (i::pre) rest (yg F o.dst p):=by
 have b:=h.af;simp only[wR,Aw]at b;obtain⟨o',k,d,f⟩:=cd b.1;rw[ho]at k;cases k;have s:∀j,E j->j≠i:=λj a e=>f (e ▸ h.sub j a);have l:Xq ops (·∈i::pre):=by intro j oj a g e z;rw[Al]at a ⊢;obtain rfl|a:=a;simp_all;exact .inr (h.closedP j oj a g e z)
 have c:∀j,j∈pre->(λj=>if j=i then p else val j) j=val j:=λj a=>if_neg (λ(e:j=i)=>f (e ▸ a));refine⟨h.closedE,l,?_,?_,λj a=>BT _ (h.sub j a),?_,hx,b.2,h.t⟩;intro t;refine⟨λj oj a g hd=>?_,(h.frmE t).2⟩;simp only[if_neg (s j a)];exact(h.frmE t).1 j oj a g hd;have:=bZ (val':=λj=>if j=i then p else val j) R h.frmP ho (p:=p) EB c;simp_all;intro j a u;rw[Al]at a;by_cases v:j=i;subst v;refine⟨o,ho,λG' w=>?_⟩;have s1:VJ ops (λj'=>if j'=j then p else val j') F0 j o F:=by have:=bX R h.closedP h.frmP ho f d;intro t y;refine⟨λj' o' h1 h2 h3=>?_,(this t y).2⟩;simp only[if_neg (Nat.ne_of_lt h3)];exact(this t y).1 j' o' h1 h2 h3
 have eq:=mA w s1;simp only[if_pos];obtain⟨e1,e2⟩|⟨e1,e2⟩:=m;simp_all[bY];exact .inr ⟨by simp_all[bY],λS' x=>IR (e2 S' x) (mB eq)⟩;obtain a|a:=a;omega;exact mC R h.closedP c a (h.evid j a u)
def IS{S0:Store}{i:Nat}{a:Row}{K:(Nat->PV)->Store->Prop}{o:Oper}(ho:ops[i]?=some o)(h:PX P r n ops ids S0 (.pure i a) F S K):
  (gd ops F o=some false/\PX P r n ops ids S0 a (yg F o.dst (.sc undef)) S K) \/
  (gd ops F o=some true/\∃p,(∀S',yY ids S0 S'->PO P r n o F S' (λq S''=>q=p/\S''=S'))/\PX P r n ops ids S0 a (yg F o.dst p) S K):=by grind[PX,bT,IP]
def IT{S0:Store}{K:(Nat->PV)->Store->Prop}{i:Nat}{o:Oper}(ho:ops[i]?=some o)(k:QR ops pre i=true):
  ∀(row:Row) (a:List Nat),i ∉ a->row.chain=true->wR ops pre a row=true->PX P r n ops ids S0 row F S K ->
   ∃rest,wR ops (i::pre) [] rest=true /\
    ((gd ops F o=some false/\PX P r n ops ids S0 rest (yg F o.dst (.sc undef)) S K)\/(gd ops F o=some true/\PO P r n o F S (λp S'=>yY ids S0 S'/\PX P r n ops ids S0 rest (yg F o.dst p) S' K))):=by
 intro row;induction row with
 |done=>intro a _ h;cases h
 |pure j r _=>intro a _ h;cases h
 |stop =>
 grind[wR,cd]
 |alt j rest more e f =>
 intro a d _ b c;simp only[wR,Aw]at b;simp only[PX]at c;by_cases g:i=j<;>grind[Wr]
theorem mE{S0:Store}{K:(Nat->PV)->Store->Prop}{val:Nat->PV}{row:Row}
  (h:Mid P r n ops ids S0 F0 K E G S val pre row F) (f:∀i,i<ops.size->E i):K G S:=by
 have c:∀i,i<ops.size->i∈pre:=λi hi=>h.sub i (f i hi);have a:∀i,QR ops pre i=true->False:=by intro i hi;obtain⟨o,ho,_,d⟩:=cd hi;exact d (c i (Bn.1 ho).1)
 have l:K F S:=by
  have b:=h.af;have e:=h.px;cases row with
  |done=>exact e
  |pure i k=>simp only[wR,Aw]at b;exact(a i b.1).elim
  |alt i k m=>simp only[wR,Aw]at b;exact(a i b.1.1.1).elim
  |stop=>simp[wR]at b
 have:G=F:=by funext t;by_cases hx:∃(j:Nat) (o:Oper),ops[j]?=some o/\o.dst=some t;obtain⟨j,o,h1,h2⟩:=hx;have g:=f j (Bn.1 h1).1;rw[(h.frmE t).1 j o g h1 h2,(h.frmP t).1 j o (h.sub j g) h1 h2];rw[(h.frmE t).2 λj o _ h1 h2=>hx ⟨j,o,h1,h2⟩,(h.frmP t).2 λj o _ h1 h2=>hx ⟨j,o,h1,h2⟩]
 simp_all
def IU{Q':Exit->Act->World->Prop}(hN:∀o∈ops,∀d,o.dst=some d->d<N)(R:RegOk ops){Sb:Store}{K:(Nat->PV)->Store->Prop}
  {C0:Ctx} {S0:Store} {w0:World} {ds:List Deferred}
  (hQ:∀F' S' C' w' a',K F' S'->St r C' S' w' N F' a'->a'.defers=ds->Step C0 S0 w0 C' S' w'->Q' .normal a' w') :
  ∀(g:Nat) (listed:Array Bool) (U:List Nat) (G:Nat->PV) (S:Store) (C:Ctx) (w:World) (a:Act) (val:Nat->PV) (pre:List Nat) (row:Row) (Fp:Nat->PV),
   listed.size=ops.size->U.length=g->(∀i,i<ops.size->listed.getD i false=false->i∈U) ->
   Mid P r n ops ids Sb F0 K (λj=>listed.getD j false=true) G S val pre row Fp ->
   St r C S w N G a->a.defers=ds->Step C0 S0 w0 C S w->wpAnyIn (Fe r) n P .any ops Q' g listed a w:=by
 intro g;induction g with
 |zero =>
 intro listed U G S C w a val pre row Fp c7 hU a2 b st hd step;have e0:U=[]:=Av hU;have a0:∀i,i<ops.size->listed.getD i false=true:=by
  intro i hi;cases hb:listed.getD i false with
  |false=>have:=a2 i hi hb;rw[e0]at this;cases this
  |true=>rfl
 refine⟨?_,hQ G S C w a (mE b a0) st hd step⟩;rw[List.eq_nil_iff_forall_not_mem];grind[mem_ready]
 |succ g ih =>
 intro listed U G S C w a val pre row Fp c7 hU a2 b st hd step;refine⟨λhr=>?_,λi hi=>?_⟩;have a0:∀i,i<ops.size->listed.getD i false=true:=by
  intro i;induction i using Nat.strongRecOn with
  |_ i e3 =>
  intro hi;cases hb:listed.getD i false with
  |true=>rfl
  |false =>
  have ho:ops[i]?=some (ops[i]'hi):=EB;have:i∈Region.ready .any ops listed:=by refine mem_ready.2 ⟨?_,ops[i]'hi,ho,λe he e4=>?_⟩;rw[Bj]at hb ⊢;rw[Ba EA]at hb ⊢;simpa using hb;have a4:=R.edge i _ ho e.on (by unfold uL;rw[Aj];exact⟨e,by rw[AX];exact⟨Cn.2 he,e4⟩,rfl⟩);exact e3 e.on a4 EA
  rw[hr]at this;cases this
 grind[mE];obtain⟨h1,o,ho,a9⟩:=mem_ready.1 hi;have a4:i<ops.size:=(Bn.1 ho).1;have a5:¬(listed.getD i false=true):=by rw[Bj]at h1 ⊢;rw[Ba EA]at h1 ⊢;simp only[Option.getD_some]at h1 ⊢;rw[h1];simp
 have u:∀e∈uL o,listed.getD e false=true:=by intro e he;unfold uL at he;rw[Aj]at he;obtain⟨x,hx,rfl⟩:=he;rw[AX]at hx;exact a9 x (Cn.1 hx.1) hx.2
 have d3:∀x,o.dst=some x->x<N:=by
  have:o∈ops:=by obtain⟨h,rfl⟩:=Bn.1 ho;exact DM h
  exact hN o this
 have e5:i∈U:=a2 i a4 (by simpa using a5);have a6:∀j,(listed.setIfInBounds i true).getD j false=true<->j=i\/listed.getD j false=true:=by intro j;rw[Bj,Bj,Du];by_cases c8:i=j;subst c8;simp[c7,a4];rw[if_neg c8];constructor;exact .inr;rintro(rfl|h);exact absurd rfl c8;exact h
 have d0:(λj=>(listed.setIfInBounds i true).getD j false=true)=(λj=>j=i\/listed.getD j false=true):=funext λj=>propext (a6 j);have c6:Xq ops (λj=>j=i\/listed.getD j false=true):=by intro j oj c f e he;obtain rfl|c:=c;rw[ho]at f;cases f;exact .inr (u e he);exact .inr (b.closedE j oj c f e he)
 have a3:∀(val':Nat->PV) (a7:List Nat) (a8:Row) (Fp':Nat->PV) (p:PV) (S':Store) (C':Ctx) (w':World) (v:Value),
   Mid P r n ops ids Sb F0 K (λj=>j=i\/listed.getD j false=true) (yg G o.dst p) S' val' a7 a8 Fp'->Rel C' S' w' p v->Sim C' S' w'->Step C S w C' S' w' ->
   wpAnyIn (Fe r) n P .any ops Q' g (listed.setIfInBounds i true) (a.put o.dst v) w':=by
  intro val' a7 a8 Fp' p S' C' w' v d1 a1 hs q;refine ih _ (U.erase i) (yg G o.dst p) S' C' w' _ val' a7 a8 Fp' (by simp[c7]) (by rw[DN e5,hU];rfl) ?_ (by rw[d0];exact d1) (st.put q hs d3 a1) (by rw[VH];exact hd) (step.trans q);intro j c b7;have e6:j≠i:=by intro e;have:=(a6 j).2 (.inl e);rw[this]at b7;cases b7
  have d4:listed.getD j false=false:=by
   cases hb:listed.getD j false with
   |false=>rfl
   |true=>have:=(a6 j).2 (.inr hb);rw[this]at b7;cases b7
  exact(List.mem_erase_of_ne e6).2 (a2 j c d4)
 have y:∀(pre:List Nat) (row:Row) (val:Nat->PV) (Fp:Nat->PV),i∈pre->Mid P r n ops ids Sb F0 K (λj=>listed.getD j false=true) G S val pre row Fp ->
   wpOpIn (Fe r) n P ops Q' i (wpAnyIn (Fe r) n P .any ops Q' g (listed.setIfInBounds i true)) a w:=by
  intro pre row val Fp k b;obtain⟨o',d5,e7⟩:=b.evid i k a5;rw[ho]at d5;cases d5;have d6:=bX R b.closedE b.frmE ho a5 u;unfold wpOpIn;rw[ho];dsimp only;have l:∀p,val i=p->Mid P r n ops ids Sb F0 K (λj=>j=i\/listed.getD j false=true) (yg G o.dst p) S val pre row Fp:=λp hp =>
   ⟨c6,b.closedP,bZ R b.frmE ho hp (λ_ _=>rfl),b.frmP,λj c=>c.elim (λe=>e ▸ k) (b.sub j),λj c hn=>b.evid j c (λh=>hn (.inr h)),b.px,b.af,b.t⟩
  obtain⟨e1,e2⟩|⟨e1,e2⟩:=e7 G d6;rw[Ju st e1];exact⟨λ_ _=>trivial,a3 val pre row Fp _ S C w _ (l _ e2) (.sc _) st.sim (.refl _ _ _)⟩;rw[Ju st e1];refine e2 S b.t G (λ_ _=>rfl) C w a N st _ _ ?_;rintro v w' C' S' p ⟨rfl,rfl⟩ a1 hs q;exact a3 val pre row Fp _ _ C' w' _ (l _ rfl) a1 hs q
 have chain:∀(pre:List Nat) (row:Row) (val:Nat->PV) (Fp:Nat->PV),row.chain=true->i ∉ pre->Mid P r n ops ids Sb F0 K (λj=>listed.getD j false=true) G S val pre row Fp ->
   wpOpIn (Fe r) n P ops Q' i (wpAnyIn (Fe r) n P .any ops Q' g (listed.setIfInBounds i true)) a w:=by
  intro pre row val Fp e8 k b;have z:∀e∈uL o,e∈pre:=λe he=>b.sub e (u e he);have b8:QR ops pre i=true:=by unfold QR;rw[ho];simp only[Aw,Ay];exact⟨λe he=>by simpa using z e he,by simpa using k⟩
  obtain⟨rest,s,hx⟩:=IT ho b8 row [] EB e8 b.af b.px;have s1:=bX R b.closedE b.frmE ho a5 u;have s2:=bX R b.closedP b.frmP ho k z;have eq:=mA s1 s2;have l:∀(p:PV) (S':Store),PX P r n ops ids Sb rest (yg Fp o.dst p) S' K->yY ids Sb S'->Mid P r n ops ids Sb F0 K (λj=>j=i\/listed.getD j false=true) (yg G o.dst p) S' (λj=>if j=i then p else val j) (i::pre) rest (yg Fp o.dst p):=by intro p S' hp d2;have e9:∀j,listed.getD j false=true->(λj=>if j=i then p else val j) j=val j:=λj c=>if_neg (λ(e:j=i)=>a5 (e ▸ c));have d7:∀j,j∈pre->(λj=>if j=i then p else val j) j=val j:=λj c=>if_neg (λ(e:j=i)=>k (e ▸ c));refine⟨c6,?_,bZ R b.frmE ho EB e9,?_,?_,?_,hp,s,d2⟩;intro j oj c f e he;rw[Al]at c ⊢;obtain rfl|c:=c;rw[ho]at f;cases f;exact .inr (z e he);exact .inr (b.closedP j oj c f e he);have:=bZ (val':=λj=>if j=i then p else val j) R b.frmP ho (p:=p) EB d7;intro t;exact⟨λj oj c f hd=>(this t).1 j oj (Al.1 c) f hd,λf0=>(this t).2 λj oj c f=>f0 j oj (Al.2 c) f⟩;intro j c;rw[Al];exact c.imp id (b.sub j);intro j c hn;rw[Al]at c;obtain c|c:=c;exact absurd (.inl c) hn;exact mC R b.closedP d7 c (b.evid j c (λh=>hn (.inr h)))
  unfold wpOpIn;rw[ho];dsimp only;obtain⟨e1,hx⟩|⟨e1,hx⟩:=hx;rw[Ju st ((bY eq).trans e1)];exact⟨λ_ _=>trivial,a3 _ _ _ _ _ S C w _ (l _ S hx b.t) (.sc _) st.sim (.refl _ _ _)⟩;rw[Ju st ((bY eq).trans e1)];refine hx G (mB eq) C w a N st _ _ ?_;rintro v w' C' S' p ⟨d2,hp⟩ a1 d8 q;exact a3 _ _ _ _ p S' C' w' v (l p S' hp d2) a1 d8 q
 have f1:∀(row:Row) (pre:List Nat) (val:Nat->PV) (Fp:Nat->PV),Mid P r n ops ids Sb F0 K (λj=>listed.getD j false=true) G S val pre row Fp ->
   wpOpIn (Fe r) n P ops Q' i (wpAnyIn (Fe r) n P .any ops Q' g (listed.setIfInBounds i true)) a w:=by
  intro row;induction row with
  |done =>
  intro pre val Fp b;have s:=b.af;simp only[wR,Ay,AN]at s;exact y pre _ val Fp (by simpa using s i a4) b
  |stop =>
  intro pre val Fp b;by_cases k:i∈pre;exact y pre _ val Fp k b;exact chain pre _ val Fp rfl k b
  |alt j r1 m _ _ =>
  intro pre val Fp b;by_cases k:i∈pre;exact y pre _ val Fp k b;exact chain pre _ val Fp rfl k b
  |pure j rest d9 =>
  intro pre val Fp b;by_cases k:i∈pre;exact y pre _ val Fp k b;have s:=b.af;simp only[wR,Aw]at s;obtain⟨oj,f,_,_⟩:=cd s.1;obtain⟨e1,hx⟩|⟨e1,p,e2,hx⟩:=IS f b.px;exact d9 _ _ _ (mD R b f hx (.inl ⟨e1,rfl⟩));exact d9 _ _ _ (mD R b f hx (.inr ⟨e1,e2⟩))
 grind
def cg{id:Nat}(ids:Option (List Nat))(row:Row)(hm:P.follows .mixedOrders=true)(q:ul N ops=true)(s:Xp ops=true)(f:wR ops [] [] row=true)
  (h:PX P r n ops ids S row F S (Q .normal)):PW P r n N (.region id ops true) Q F S:=by
 intro C w a st;have R:=IQ s;refine wpIn_region_any hm ?_;obtain⟨hs,b⟩:=st.sim.drew;have k:St r C S w.drew N F a:=⟨hs,st.size,λi=>(st.fr i).mono b,r.keep b st.v⟩;have m:∀j,(Array.replicate ops.size false).getD j false=false:=by intro j;rw[Bj,DO];split<;>rfl
 refine IU (Q':=λe a' w'=>∃F' S' C',Q e F' S'/\St r C' S' w' N F' a'/\Defs w.heap.size a.defers C' S' w' a'.defers/\Step C S w C' S' w') (bV q) R (ids:=ids) (Sb:=S) (F0:=F) (K:=Q .normal) (C0:=C) (S0:=S) (w0:=w) (ds:=a.defers)
  (λF' S' C' w' a' u p x g=>⟨F',S',C',u,p,.of_eq x,g⟩) ops.size _ (List.range ops.size) F S C w.drew a (λ_=>.junk) [] row F EB EB (λi hi _=>AN.2 hi) ?_ k rfl b
 have d:∀j,¬((Array.replicate ops.size false).getD j false=true):=λj h=>by simp_all
 refine⟨λj o c=>absurd c (d j),(λj o c=>nomatch c),?_,?_,λj c=>absurd c (d j),(λj c=>nomatch c),h,f,?_⟩;exact λt=>⟨λj o c=>absurd c (d j),λ_=>rfl⟩;exact λt=>⟨(λj o c=>nomatch c),λ_=>rfl⟩;cases ids with
 |none=>rfl
 |some l=>exact λ_ _=>rfl
end
def PCalls(P:Program)(f:FuncId)(args:List PV)(S:Store)(Q:PV->Store->Prop):Prop :=
 ∀(C:Ctx) (w:World) (vs:Array Value),Sim C S w->args.length=vs.size->(∀(i:Nat) (c:PV) (v:Value),args[i]?=some c->vs[i]?=some v->Rel C S w c v) ->
  Calls P f vs w λe w'=>∃p v S' C',e=.returned v/\Q p S'/\Rel C' S' w' p v/\Sim C' S' w'/\Step C S w C' S' w'
variable {Q:PV->Store->Prop}
theorem PCalls.mono{f:FuncId}{args:List PV}{Q':PV->Store->Prop}(h:PCalls P f args S Q)(a:∀p S',Q p S'->Q' p S'):PCalls P f args S Q':=by intro C w vs h1 h2 h3;refine(h C w vs h1 h2 h3).mono ?_;grind
def PCallsV(P:Program)(V:Ctx->Store->World->Prop)(f:FuncId)(args:List PV)(S:Store)(Q:PV->Store->Prop):Prop :=
 ∀(C:Ctx) (w:World) (vs:Array Value),Sim C S w->V C S w->args.length=vs.size->(∀(i:Nat) (c:PV) (v:Value),args[i]?=some c->vs[i]?=some v->Rel C S w c v) ->
  Calls P f vs w λe w'=>∃p v S' C',e=.returned v/\Q p S'/\Rel C' S' w' p v/\Sim C' S' w'/\Step C S w C' S' w'
theorem PCalls.v{V:Ctx->Store->World->Prop}{f:FuncId}{args:List PV}(h:PCalls P f args S Q):PCallsV P V f args S Q:=λC w vs a _=>h C w vs a
theorem PCallsV.mono{V:Ctx->Store->World->Prop}{f:FuncId}{args:List PV}{Q':PV->Store->Prop}(h:PCallsV P V f args S Q)(b:∀p S',Q p S'->Q' p S'):PCallsV P V f args S Q':=by intro C w vs h1 h2 h3 a;refine(h C w vs h1 h2 h3 a).mono ?_;grind
def qS(P:Program)(f:FuncId):Prop:=∀(args:Array Value) (w:World),(callFunc f args).run P w=.ok (.enter f args) w
section
variable {P:Program} {r:Rd} {n N:Nat} {Q:Exit->(Nat->PV)->Store->Prop} {F:Nat->PV} {S:Store}
def ft{f:FuncId}{args:Array Value}{R:Ending->World->Prop}(h:Calls P f args w R):CallsIn (Fe r) n P f args w R:=by exact(callsIn_wide (n:=n)).2 h
variable {fs:List PV}
def mF{o:Oper}{c:Call}{x:Operand}{k:FuncId}{R:PV->Store->Prop}(ho:o.op=.call c)(hc:c.callee=.value x)(hx:ev F x=.fn (.func k) fs cs)(hE:qS P k)
  (h:PCallsV P r.V k (fs++c.args.toList.map (ev F)++cs) S R) (hK:∀p S',R p S'->K p S'):PO P r n o F S K:=by
 intro G hG C w a N st next Q' q;have s:x∈o.op.operands:=by simp[ho,Op.operands,Call.operands,hc]
 have t:ev G x=.fn (.func k) fs cs:=(hG x s).trans hx;have g:∀y∈c.args.toList,ev G y=ev F y:=λy hy=>hG y (by simp_all[Op.operands,Call.operands]);have j:c.args.toList.map (ev F)=c.args.toList.map (ev G):=AQ λy hy=>(g y hy).symm;rw[j]at h;have b:=st.ev x;rw[t]at b;generalize hv:a.eval x=v at b;cases b with
 |fn hf u h1 h2 =>
 rename_i fv cv;have m:(execOp a.eval o).run P w=.ok (.enter k ((fv++c.args.map a.eval)++cv)) w:=by unfold execOp;simp only[ho,resolve,hc,hv,Deferred.ofValue,Sem.run_bind,Sem.run_pure,Aq,invoke];exact hE _ w
 refine qx (x:=.enter k ((fv++c.args.map a.eval)++cv)) (w':=w) EJ m ?_;rw[Oper.uponIn_enter];refine⟨λhd=>?_,?_⟩;cases hd;have d:=VG (l:=c.args.toList) st.ev;simp only[Array.toArray_toList]at d;have key:=h C w ((fv++c.args.map a.eval)++cv) st.sim st.v (by simp[hf,u]) (by
  intro i p v f hv;by_cases q1:i<fs.length;rw[List.append_assoc,As q1]at f;rw[Array.append_assoc,BB EA]at hv;exact h1 i p v f hv;by_cases z:i<fs.length+(c.args.toList.map (ev G)).length;rw[List.append_assoc,Am EA,As EA]at f;rw[Array.append_assoc,B4 EA,BB (by simp at z ⊢;omega)]at hv;rw[<-hf]at hv;exact d.2 _ p v f hv;rw[Am (by simp at z ⊢;omega),Ak]at f;rw[B4 (by simp at z ⊢;omega),Cz]at hv;have e:fs.length+(c.args.toList.map (ev G)).length=fv.size+(c.args.map a.eval).size:=by simp[hf]
  rw[<-e]at hv;exact h2 _ p v f hv)
 refine(ft key).mono ?_;grind
def Jv{o:Oper}{c:Call}{x:Operand}{k:FuncId}{R:PV->Store->Prop}(ho:o.op=.call c)(hc:c.callee=.value x)(hx:ev F x=.fn (.func k) fs cs)(a:qS P k)
  (h:PCalls P k (fs++c.args.toList.map (ev F)++cs) S R) (b:∀p S',R p S'->K p S'):PO P r n o F S K :=
 mF ho hc hx a h.v b
def ZD(args:List PV):Nat->PV:=λi=>args.getD i (.sc undef)
def vJ(P:Program)(F:Nat->PV)(S:Store):List ResultVar->Option (List PV)
 |[]=>some []
 |.tmp t::rs=>(vJ P F S rs).map (F t::·)
 |.cell a t::rs =>
  match Yt P t S (F a) with
  |some p=>(vJ P F S rs).map (p::·)
  |none=>none
def zp:List PV->PV
 |[p]=>p
 |ps=>.tup ps
def Yu(P:Program)(rs:List ResultVar)(Q:PV->Store->Prop):Exit->(Nat->PV)->Store->Prop
 |.normal,F,S=>∃ps S',vJ P F S rs=some ps/\Q (zp ps) S'/\∀o,S' o=S o\/S' o=.dead
 |.ret,F,S=>∃ps S',vJ P F S rs=some ps/\Q (zp ps) S'/\∀o,S' o=S o\/S' o=.dead
 |_,_,_=>False
def VL(a:Act)(x:ResultVar):Sem Value :=
 match x with
 |.tmp t=>pure (a.tmps.getD t undef)
 |.cell x t=>do loadVar t (<-asAddr (a.tmps.getD x undef))
def IV(st:St r C S w N F a):∀(rs:List ResultVar) (ps:List PV),vJ P F S rs=some ps ->
  ∃vs:List Value,(rs.mapM (VL a)).run P w=.ok vs w/\ps.length=vs.length /\
   ∀(i:Nat) (p:PV) (v:Value),ps[i]?=some p->vs[i]?=some v->Rel C S w p v:=by
 intro rs;induction rs with
 |nil=>intro ps h;cases h;simp
 |cons x rs j =>
 intro ps h;cases x with
 |tmp t =>
  simp only[vJ]at h;obtain⟨qs,f,rfl⟩:=An.1 h;obtain⟨vs,h1,h2,h3⟩:=j qs f;refine⟨a.tmps.getD t undef::vs,?_,by simp[h2],?_⟩;simp_all[VL];intro i p v k hv;cases i with
  |zero=>simp only[Bp,Option.some.injEq]at k hv;subst k;subst hv;exact st.fr t
  |succ i=>grind
 |cell y t =>
 simp only[vJ]at h;split at h;rename_i q b;obtain⟨qs,f,rfl⟩:=An.1 h;obtain⟨vs,h1,h2,h3⟩:=j qs f;obtain⟨u,n,l⟩:=mr b st.sim (st.fr y);have c:∃m,a.tmps.getD y undef=.pointer (some m):=by
  have d:=st.fr y;generalize a.tmps.getD y undef=u0 at d;unfold Yt at b;split at b;rename_i e;rw[e]at d;cases d with|ptr o=>exact o
  rename_i e;rw[e]at d;cases d with|ip=>exact⟨_,rfl⟩
  cases b
 obtain⟨m,g⟩:=c;rw[g]at n;refine⟨u::vs,?_,by simp[h2],?_⟩<;>grind[Instr.loadAt,Instr.sureAddr,Sem.run_bind,Sem.run_pure,Result.andThen_ok,VL,asAddr];cases h
variable {rs:List ResultVar}
def IW(st:St r C S w N F a){fn:Func}(b:fn.results.toList=rs)(h:vJ P F S rs=some cs):
  ∃v,(results fn a.tmps).run P w=.ok v w/\Rel C S w (zp cs) v:=by
 obtain⟨vs,h1,h2,h3⟩:=IV (P:=P) st rs cs h;have hm:(fn.results.mapM (VL a)).run P w=.ok vs.toArray w:=by rw[<-Array.toArray_toList (xs:=fn.results),List.mapM_toArray,b];simp only[Sem.run_map,h1,Aq]
 have e:∀g:ResultVar->Sem Value,g=VL a->(fn.results.mapM g).run P w=.ok vs.toArray w:=by rintro g rfl;exact hm
 unfold results;rw[Sem.run_bind,e _ (by funext x;cases x<;>rfl)];simp only[Aq,Sem.run_pure];refine⟨_,rfl,?_⟩
 match vs,cs,h2 with
 |[v],[p],_=>exact h3 0 p v rfl rfl
 |[],[],_=>exact .tup rfl EB
 |v::d::vs,p::f::cs,h2 =>
 simp only[B1,Ab];rw[dif_neg EA];exact .tup EA (λi c v hc hv=>h3 i c v hc (by simpa using hv))
variable {D:Nat}
def mG(a:w.heap[D]?=some (.deferred (some [])))(b:Nat)(o:Obj)(hb:w.heap[b]?=some o)(ho:∀x,o≠.deferred x):(w.putObj D (.deferred none)).heap[b]?=some o:=by grind[World.putObj_heap_other]
def mH(e:w.heap[D]?=some (.deferred (some []))){v:Value}(f:Rel C S w p v):Rel C S (w.putObj D (.deferred none)) p v:=by
 have c:=mG e;induction f with
 |junk v=>exact .junk v
 |sc v=>exact .sc v
 |agg hl h1 _ a=>exact .agg hl h1 a
 |tup hl _ a=>exact .tup hl a
 |lst0=>exact .lst0
 |lst1 hn hm hb b hs h1 _ a=>exact .lst1 hn hm (c _ _ hb EB) b hs h1 a
 |ip hb b hs h1 _ a=>exact .ip (c _ _ hb EB) b hs h1 a
 |nl0=>exact .nl0
 |nl hn hb b hl h1 _ a=>exact .nl hn (c _ _ hb EB) b hl h1 a
 |ptr h1 ho h=>exact .ptr h1 ho h
 |sl h1 ho h=>exact .sl h1 ho h
 |fn hf hc _ _ a d=>exact .fn hf hc a d
 |ifc _ a=>exact .ifc a
 |mp h1 ho h=>exact .mp h1 ho h
theorem Sim.take(h:Sim C S w)(a:w.heap[D]?=some (.deferred (some [])))(hM:¬C.M S D):Sim C S (w.putObj D (.deferred none)):=by have f:=mG a;have d:∀{p v},Rel C S w p v->Rel C S (w.putObj D (.deferred none)) p v:=λg=>mH a g;refine⟨h.lt,h.clk,h.O,?_,?_⟩;intro o ver e cs hs;obtain hn|⟨b,k,c,h1,h2,h3,i,j,l⟩:=h.cells o ver e cs hs<;>grind;intro o ver es hs;obtain⟨b,k,ms,cl,h1,h2,h3,i⟩:=h.maps o ver es hs;grind
theorem Marks.take{c:Nat}:∀{ds:List Deferred},(∀d∈ds,d≠{ target:=.collected D,args:=#[] })->Marks c C S w ds->Marks c C S (w.putObj D (.deferred none)) ds
 |[],_,_=>trivial
 |d::ds,a,⟨⟨D',h1,h2,h3,e,f⟩,h⟩=>by refine⟨⟨D',h1,h2,?_,e,f⟩,Marks.take (λg b=>a g (by simp[b])) h⟩;simp_all[BC]
def IX{C0:Ctx}{S0:Store}{w0:World}{fn:Func}{tmps:Array Value}{Q:PV->Store->Prop}{S1:Store}(g:fn.results.toList=rs)(h1:vJ P F S rs=some cs)(n:Q (zp cs) S1)(q:∀o,S1 o=S o\/S1 o=.dead):
  ∀(ds:List Deferred) (C:Ctx) (w:World),Marks w0.heap.size C S w ds->St jI C S w N F { tmps:=tmps,defers:=[] }->Step C0 S0 w0 C S w ->
   LeavesInM (Fe jI) 0 P fn tmps (λe w'=>∃p v S' C',e=.returned v/\Q p S'/\Rel C' S' w' p v/\Sim C' S' w'/\Step C0 S0 w0 C' S' w') ds .returning w:=by
 intro ds;induction ds with
 |nil =>
 intro C w _ st step;obtain⟨v,hv,c⟩:=IW (a:={ tmps:=tmps,defers:=[] }) st g h1;obtain⟨k1,h⟩:=st.sim.kill q;exact⟨v,hv,_,v,S1,C,rfl,n,c.mono h,k1,step.trans h⟩
 |cons d ds r =>
 intro C w ⟨⟨D,x,l,j,s,t⟩,hm⟩ st step;refine⟨by simp,.inl ⟨D,w.putObj D (.deferred none),by rw[l],run_takeDeferred j,?_⟩⟩;have m:=qX j;have f:=st.sim.take j s;refine r C _ (Marks.take (λu k=>l ▸ t u k) hm) ⟨f,st.size,λi=>?_,trivial⟩ ?_;have y:=st.fr i;simp_all[mH];refine⟨step.os,step.tape,step.output,by simpa using step.size,step.next,step.clock,λb hb hM=>?_,step.vers⟩;obtain⟨k1,h⟩:=step.blocks b hb hM;grind[World.putObj_heap_other]
def fu{V:Ctx->Store->World->Prop}{keep:∀{C C':Ctx} {S S':Store} {w w':World},Step C S w C' S' w'->V C S w->V C' S' w'}{f:FuncId}{fn:Func}{c:Code}{args:List PV}{Q:PV->Store->Prop}(hf:P.funcs[f]?=some fn)(hb:fn.body=some c)(l:fn.ntmps=N)(g:fn.results.toList=rs)(j:args.length<=N)
  (h:PW P ⟨none,V,keep⟩ 0 N c (Yu P rs Q) (ZD args) S):PCallsV P V f args S Q:=by
 intro C w vs m q hl s;refine(callsIn_wide (n:=0)).1 (callsIn_of_wp_marks hf hb trivial ?_ rfl);have st:St ⟨none,V,keep⟩ C S w N (ZD args) { tmps:=vs++Array.replicate (fn.ntmps-vs.size) undef,defers:=[] }:=by refine⟨m,by simp[l];omega,λi=>?_,q⟩;unfold ZD;simp only[Bj,List.getD_eq_getElem?_getD];by_cases hi:i<args.length;grind;rw[Ao EA,B4 EA,DO];split<;>exact .sc _
 refine wpIn_mono (h C w _ st) ?_;rintro e a' w' ⟨F',S',C',k,b,⟨ms,r,hm⟩,d⟩;have a:(∃ps S'',vJ P F' S' rs=some ps/\Q (zp ps) S''/\∀o,S'' o=S' o\/S'' o=.dead) ->
   LeavesInM (Fe jI) 0 P fn a'.tmps (λe w'=>∃p v S' C',e=.returned v/\Q p S'/\Rel C' S' w' p v/\Sim C' S' w'/\Step C S w C' S' w') a'.defers .returning w':=by
  rintro⟨ps,S'',h1,h2,h3⟩;rw[r,AA];exact IX g h1 h2 h3 ms C' w' hm ⟨b.sim,b.size,b.fr,trivial⟩ d
 cases e with
 |normal=>exact a k
 |ret=>exact a k
 |_=>exact k.elim
def uM{f:FuncId}{fn:Func}{c:Code}{args:List PV}{Q:PV->Store->Prop}(hf:P.funcs[f]?=some fn)(hb:fn.body=some c)(d:fn.ntmps=N)(b:fn.results.toList=rs)(a:args.length<=N)
  (h:PW P jI 0 N c (Yu P rs Q) (ZD args) S):PCalls P f args S Q :=
 λC w vs e hl g=>fu hf hb d b a h C w vs e trivial hl g
def QS{c:Code}{F':Nat->PV}(f:∀C w a,St r C S w N F a->∃C',St r C' S' w N F' a/\Step C S w C' S' w)(h:PW P r n N c Q F' S'):PW P r n N c Q F S:=by intro C w a st;obtain⟨C',d,b⟩:=f C w a st;refine wpIn_mono (h C' w a d) ?_;rintro e a' w' ⟨F2,S2,C2,h1,h2,h3,g⟩;exact⟨F2,S2,C2,h1,h2,h3,b.trans g⟩
def IY{c:Code}{F':Nat->PV}(b:∀i,F' i=F i\/F' i=.junk)(h:PW P r n N c Q F' S):PW P r n N c Q F S :=
 QS (λC w a st=>⟨C,⟨st.sim,st.size,λi=>by obtain e|e:=b i<;>rw[e];exact st.fr i;exact .junk _,st.v⟩,.refl _ _ _⟩) h
def Ws(P:Program)(ops:Array Oper):List Oper->(Nat->PV)->Option (Nat->PV)
 |[],F=>some F
 |o::os,F =>
  match gd ops F o with
  |none=>none
  |some false=>Ws P ops os (yg F o.dst (.sc undef))
  |some true =>
  match uk P F o with
  |some p=>Ws P ops os (yg F o.dst p)
  |none=>none
variable {ops:Array Oper}
theorem fw{K:(Nat->PV)->Store->Prop}:∀(l:List Oper) (F F':Nat->PV),Ws P ops l F=some F'->K F' S->ZB P r n [] ops l F S K
 |[],F,F',h,a=>by cases h;exact a
 |o::os,F,F',h,a=>by
  have hb:bU [] o=false:=by unfold bU;split<;>rfl
  simp only[Ws]at h;simp only[ZB];split at h;cases h;rename_i b;(try simp only[b]);exact fw os _ _ h a;rename_i b;(try simp only[b,hb,A7,if_false]);split at h;rename_i p c;(try simp only[c]);exact fw os _ _ h a;cases h
def jl{id:Nat}{F':Nat->PV}(a:ul N ops=true)(h:Ws P ops ops.toList F=some F')(b:Q .normal F' S):PW P r n N (.region id ops false) Q F S :=
 mu [] a (fw _ _ _ h b)
def qm{id:Nat}(H:List Nat)(a:ul N ops=true)(h:∀K:(Nat->PV)->Store->Prop,(∀F' S',Q .normal F' S'->K F' S')->ZB P r n H ops ops.toList F S K):PW P r n N (.region id ops false) Q F S :=
 mu H a (h _ λ_ _ h=>h)
def Xs(P:Program)(ops:Array Oper)(S:Store):List Oper->(Nat->PV)->Option (Nat->PV)
 |[],F=>some F
 |o::os,F =>
  match gd ops F o with
  |none=>none
  |some false=>Xs P ops S os (yg F o.dst (.sc undef))
  |some true =>
  match uk P F o with
  |some p=>Xs P ops S os (yg F o.dst p)
  |none =>
  match Xr P none S F o with
  |some p=>Xs P ops S os (yg F o.dst p)
  |none=>none
def IZ{id:Nat}{F':Nat->PV}(hm:P.follows .mixedOrders=true)(d:ul N ops=true)(e:Xp ops=true)(b:wR ops [] [] (Row.pures (List.range ops.size) .done)=true)
  (h:Xs P ops S ops.toList F=some F') (f:Q .normal F' S):PW P r n N (.region id ops true) Q F S:=by
 refine cg none (Row.pures (List.range ops.size) .done) hm d e b ?_;have key:∀(m k:Nat) (G:Nat->PV),ops.size-k=m->Xs P ops S (ops.toList.drop k) G=some F'->PX P r n ops none S (Row.pures ((List.range ops.size).drop k) .done) G S (Q .normal):=by
  intro m;induction m with
  |zero =>
  intro k G g a;rw[BW EF]at a ⊢;cases a;exact f
  |succ m i =>
  intro k G g a;have c:k<ops.size:=EA;rw[fk k _ c];have e2:ops.toList.drop k=ops[k]::ops.toList.drop (k+1):=by rw[AG (by simpa using c)];simp
  grind[Xs,Row.pures,PX]
 exact key ops.size 0 F rfl (by simpa using h)
def Xt{id:Nat}(ids:Option (List Nat))(row:Row)(hm:P.follows .mixedOrders=true)(b:ul N ops=true)(c:Xp ops=true)(a:wR ops [] [] row=true)
  (h:∀K:(Nat->PV)->Store->Prop,(∀F' S',Q .normal F' S'->K F' S')->PX P r n ops ids S row F S K):PW P r n N (.region id ops true) Q F S :=
 cg ids row hm b c a (h _ λ_ _ h=>h)
end
section
variable {P:Program} {r:Rd} {n N:Nat} {Q:Exit->(Nat->PV)->Store->Prop} {F:Nat->PV} {S:Store}
def fx(h:RelL C S w cs vs):cs.length<=vs.size/\(∀(i:Nat) (v:Value),i<cs.length->vs[i]?=some v->v.oneCell'=true) /\
  ∀(i:Nat) (p:PV) (v:Value),cs[i]?=some p->vs[i]?=some v->Rel C S w p v :=
 ⟨by rw[h.1];omega,λi v _ hv=>h.2.1 i v hv,h.2.2⟩
def mI(C:Ctx)(S:Store)(w w':World)(o ver k:Nat)(x:Ob)(hx:x.ver=some ver):Rel (C.put o ver (some (w.heap.size,k))) (S.set o x) w' (.ptr o ver 0) (.pointer (some ⟨w.heap.size,0,none⟩)):=by refine .ptr ⟨_,rfl⟩ (by simp only[Ctx.put];omega) λv0 a=>?_;simp_all[q11,Ctx.put]
theorem Fresh.clock(C:Ctx)(h:S j=.dead):Fresh C S j C.clock:=⟨h,.inr (Af _)⟩
def mJ{o:Oper}(ho:o.op=.alloc t)(h:Program.zeroOf P t=some z)(h1:z.cells.all (·.oneCell')=true)
  (d:∀C:Ctx,S C.next=.dead->∃id v,Fresh C S id v/\K (.ptr id v 0) (S.set id (.cells v t (jW z)))):PO P r n o F S K:=by
 intro G _ C w a N st next Q' b;have e:=fx (mg (C:=C) (S:=S) (w:=w) h1);obtain⟨id,ver,f,d⟩:=d C st.sim.free;obtain⟨k1,g⟩:=st.sim.object' f t z.cells (jW z) e.1 e.2.1 e.2.2;refine qx (x:=.value (.pointer (some ⟨w.heap.size,0,none⟩))) (w':=w.alloc (.cells z.cells t)) (by intro c hc;rw[ho]at hc;cases hc) ?_ (b _ _ _ _ _ d (mI C S w _ _ _ _ _ rfl) k1 g);unfold execOp
 simp_all[Instr.alloc,Xn,newVar,newRow]
def Ka{o:Oper}{x:Operand}(ho:o.op=.box t x)(hf:(ev F x).fit=true)
  (d:∀C:Ctx,S C.next=.dead->∃id v,Fresh C S id v/\K (.ptr id v 0) (S.set id (.cells v t (ev F x).cells))):PO P r n o F S K:=by
 intro G h C w a N st next Q' b;have e:ev G x=ev F x:=h x (by simp[ho,Op.operands]);rw[<-e]at hf;simp only[<-e]at d;have f:=fx ((st.ev x).cells' hf);obtain⟨id,ver,g,d⟩:=d C st.sim.free;obtain⟨k1,i⟩:=st.sim.object' g t (a.eval x).cells (ev G x).cells f.1 f.2.1 f.2.2;refine qx (x:=.value (.pointer (some ⟨w.heap.size,0,none⟩))) (w':=w.alloc (.cells (a.eval x).cells t)) (by intro c hc;rw[ho]at hc;cases hc) ?_ (b _ _ _ _ _ d (mI C S w _ _ _ _ _ rfl) k1 i)
 simp_all[execOp,Instr.box,newVar,newRow]
def VM(C:Ctx)(S:Store)(w w':World)(o ver k sz m cap:Nat)(x:Ob)(hx:x.ver=some ver)(hm:m<=cap)(hM:m<=xx)(hc:cap<=maxLen)(b:cap*sz=k):
  Rel (C.put o ver (some (w.heap.size,k))) (S.set o x) w' (.sl o ver sz 0 m) (.slice (some ⟨w.heap.size,0,none⟩) m cap):=by
 refine .sl ⟨_,_,rfl,hm,hM,hc,λ_=>⟨_,_,rfl⟩⟩ (by simp only[Ctx.put];omega) λv0 a=>?_;grind[q11,Ctx.put]
def Program.bytesOf'(P:Program)(t:TypeId):Option Nat:=(P.info? t).map (·.bytes)
def fy(h:Program.bytesOf' P t=some b)(w:World):∃i,(typeInfo t).run P w=.ok i w/\i.bytes=b:=by unfold Program.bytesOf' at h;obtain⟨i,hi,rfl⟩:=An.1 h;simp_all[typeInfo]
variable {by_:Nat}
def Kb{o:Oper}{e:TypeId}{l c:Operand}{kl kc:IntKind}{a:Nat}(ho:o.op=.makeSlice t l c)(ht:P.underlying t=some (.slice e))(hl:ev F l=.sc (.int kl (a:Int)))(hc:ev F c=.sc (.int kc (b:Int)))
  (hz:Program.zeroOf P e=some z) (h1:z.cells.all (·.oneCell')=true) (k:z.cells.size=P.cellsOf e) (h0:P.cellsOf e≠0) (m:Program.bytesOf' P e=some by_) (p:a<=b) (hb:b<=140737488355328) (s:b*by_<=281474976710656)
  (u:∀C:Ctx,S C.next=.dead->∃id v,Fresh C S id v/\K (.sl id v (P.cellsOf e) 0 a) (S.set id (.cells v e (qw b z)))):PO P r n o F S K:=by
 intro G hG C w h N st next Q' d;have e1:ev G l=_:=(hG l (by simp_all[Op.operands])).trans hl;have e2:ev G c=_:=(hG c (by simp_all[Op.operands])).trans hc;have r1:=st.ev l;have r2:=st.ev c;rw[e1]at r1;rw[e2]at r2;generalize y:h.eval l=v1 at r1;generalize a0:h.eval c=v2 at r2;cases r1;cases r2;have hr:=fx (ml (C:=C) (S:=S) (w:=w) h1 b);obtain⟨id,ver,a1,u⟩:=u C st.sim.free;obtain⟨k1,k2⟩:=st.sim.object' a1 e ((Array.range (b*z.cells.size)).map (z.cells[·%z.cells.size]!)) (qw b z) hr.1 hr.2.1 hr.2.2;obtain⟨i,hi,a2⟩:=fy m w;have f:IntKind.i64.wrap (b:Int)=b:=IntWalk.i64_in _ ⟨by omega,by omega⟩;have g:IntKind.i64.wrap (a:Int)=a:=IntWalk.i64_in _ ⟨by omega,by omega⟩;refine qx (x:=.value (.slice (some ⟨w.heap.size,0,none⟩) a b)) (w':=w.alloc (.cells ((Array.range (b*z.cells.size)).map (z.cells[·%z.cells.size]!)) e)) EI ?_
  (d _ _ _ _ _ u (VM C S w _ _ _ _ _ _ _ _ rfl p (by unfold xx;omega) (by unfold maxLen;omega) EI) k1 k2)
 unfold execOp;simp only[ho,y,a0,Instr.makeSlice,Sem.run_bind,run_underlying ht,Aq,asInt,asIntOf,Sem.run_pure,hi,a2,g,f];have a3:(by_:Int)*(b:Int)<=281474976710656:=by
  obtain⟨q,hq⟩:∃q,b*by_=q:=⟨_,rfl⟩;have e:(by_:Int)*(b:Int)=(q:Int):=by rw[<-hq,Int.natCast_mul,CW]
  rw[e];rw[hq]at s;omega
 have a5:(2:Int)^48=281474976710656:=rfl;have q1:decide ((b:Int)<0)=false:=decide_eq_false EA;have q2:decide ((by_:Int)*(b:Int) > 2^48)=false:=decide_eq_false EA;have q3:decide ((a:Int)<0)=false:=decide_eq_false EA;have q4:decide ((a:Int) > (b:Int))=false:=decide_eq_false EA;rw[if_neg (by rw[q1,q2,q3,q4];decide)];simp only[Sem.run_bind,run_askRoom,Aq,AJ,ui h0];by_cases j:b=0;subst j;simp only[Dh,if_true,Sem.run_pure,Aq,Sem.run_bind,newRow,run_newObj,DL,D4,Ef];have a4:b*P.cellsOf e≠0:=Nat.mul_ne_zero j h0;rw[if_neg a4];simp only[Sem.run_bind,Xn hz,Aq,Sem.run_pure,newRow,run_newObj,Ef,k]
def Kc{X:Nat->Nat->Prop}(h:∀id,S id=.dead->X id 0):∀C:Ctx,S C.next=.dead->∃id v,Fresh C S id v/\X id v:=λC a=>⟨C.next,0,⟨a,.inl (Af _)⟩,h _ a⟩
def Y4{X:Nat->Nat->Prop}(j:Nat)(a:S j=.dead)(h:∀v,X j v):∀C:Ctx,S C.next=.dead->∃id v,Fresh C S id v/\X id v:=λC _=>⟨j,C.clock,.clock C a,h _⟩
def Xu{o:Oper}(ho:o.op=.alloc t)(a:Program.zeroOf P t=some z)(h1:z.cells.all (·.oneCell')=true)
  (b:∀id,S id=.dead->K (.ptr id 0 0) (S.set id (.cells 0 t (jW z)))):PO P r n o F S K :=
 mJ ho a h1 (Kc (X:=λid v=>K (.ptr id v 0) (S.set id (.cells v t (jW z)))) b)
structure SrcOk (P:Program) (w:World) (sz:Nat) (x:Value) (m:Nat) (news:List Value):Prop where
 len:(Builtin.lenOf x).run P w=.ok m w
 cells:(Builtin.firstCells sz m x).run P w=.ok news.toArray w
 cells':(Builtin.firstCells sz m x).run P w.drew=.ok news.toArray w.drew
 size:news.length=m*sz
 one:∀v∈news,v.oneCell'=true
def fA{ty e:TypeId}{x:Value}{b:Option Addr}{cap:Nat}(c:P.underlying t=some (.slice e))(h0:P.cellsOf e≠0)(hs:SrcOk P w (P.cellsOf e) x 0 [])(d:k<=cap):
  (Builtin.append_ #[t,t] ty #[.slice b k cap,x]).run P w=.ok (.slice b k cap) w:=by
 have a:=ui h0 w;unfold Builtin.append_;simp only[AH,Bp,Bk,Sem.run_bind,run_underlying c,Aq,a,Sem.run_pure,A7,if_false,hs.len,BK];rw[if_pos d];simp only[DF,if_true,Sem.run_bind,hs.cells,Aq];cases b<;>simp_all[storeCells]
variable {g cap:Nat}{news:List Value}
def Kd{ty e:TypeId}{x:Value}{m:Nat}(f:P.underlying t=some (.slice e))(h0:P.cellsOf e≠0)(hs:SrcOk P w (P.cellsOf e) x m news)
  (h:w.heap[g]?=some (.cells vs e (0,0))) (d:k+m<=cap) (hc:vs.size=cap*P.cellsOf e) :
  (Builtin.append_ #[t,t] ty #[.slice (some ⟨g,0,none⟩) k cap,x]).run P w =
   .ok (.slice (some ⟨g,0,none⟩) (k+m) cap) (w.setRow g (vs.toList.take (k*P.cellsOf e)++news++vs.toList.drop (k*P.cellsOf e+news.length)).toArray):=by
 have c:=ui h0 w;have a:k*P.cellsOf e+0+news.length<=vs.size:=by rw[hs.size,hc,BK,<-Nat.add_mul];exact Cx _ d
 have b:=run_storeCells_at P g (k*P.cellsOf e) e news 0 vs w h a hs.one;simp only[BK]at b;unfold Builtin.append_;simp only[AH,Bp,Bk,Sem.run_bind,run_underlying f,Aq,c,Sem.run_pure,A7,if_false,hs.len];rw[if_pos d];simp only[DF,if_true,Sem.run_bind,hs.cells,Aq,Addr.add_plain,A3,b,Sem.run_pure]
def cj{ty e:TypeId}{x:Value}{b:Option Addr}{m:Nat}{olds:List Value}(l:P.underlying t=some (.slice e))(h0:P.cellsOf e≠0)(n:Program.zeroOf P e=some z)(c:Program.bytesOf' P e=some by_)
   (hs:SrcOk P w (P.cellsOf e) x m news) (hold:(Builtin.firstCells (P.cellsOf e) k (.slice b k cap)).run P w.drew=.ok olds.toArray w.drew) (o:cap<k+m) (a:(k+m)*by_<=140737488355328) (p:by_≠0) :
  (Builtin.append_ #[t,t] ty #[.slice b k cap,x]).run P w =
   .ok (.slice (some ⟨w.heap.size,0,none⟩) (k+m) (grownCap w (k+m) cap e)) (w.drew.alloc (.cells (olds.toArray++news.toArray++Builtin.zeroCells z.cells (grownCap w (k+m) cap e-(k+m))) e)):=by
 have f:=ui h0 w;obtain⟨i,hi,d⟩:=fy c w;obtain⟨i2,g,h⟩:=fy c w.drew;have j:Builtin.nextslicecap (k+m) cap*by_<=281474976710656:=growslice_fits o a;unfold Builtin.append_;simp only[AH,Bp,Bk,Sem.run_bind,run_underlying l,Aq,f,Sem.run_pure,A7,if_false,hs.len];rw[if_neg EA];simp only[Sem.run_bind,hi,Aq,d];rw[if_neg EJ];simp only[Sem.run_bind,hi,Aq,d];rw[if_neg EA];simp only[Sem.run_bind,run_choose,Question.forced,A7,if_false,Aq,World.drew_eq];rw[show (Question.appendCap (k+m) cap e).cut (w.tape w.drawn (.appendCap (k+m) cap e))=grownCap w (k+m) cap e from rfl];simp only[g,Aq,run_askRoom,hold,DF,if_true,hs.cells',Xn n,newRow,Sem.run_bind,run_newObj,Sem.run_pure,Ef,World.size_drew]
theorem fB{sz:Nat}{c:Array Value}{e:TypeId}{fz:Nat × Nat}(hb:w.heap[b]?=some (.cells c e fz))(o:Nat)(hl:o+k*sz<=c.size):
  (Builtin.firstCells sz k (.slice (some ⟨b,o,none⟩) k cap)).run P w=.ok (c.extract o (o+k*sz)) w:=by
 unfold Builtin.firstCells loadCells;have:=mc (P:=P) (o:=o) hb (k*sz) 0 #[] EA;simpa using this
def Y5(S:Store)(sz:Nat)(x:PV):Option (Nat × List PV) :=
 match x with
 |.lst m ds=>if ds.length=m*sz then some (m,ds) else none
 |.sl o ver sz' off m =>
  match S o with
  |.cells v _ cs=>if v=ver/\sz'=sz/\off+m*sz<=cs.length then some (m,(cs.drop off).take (m*sz)) else none
  |_=>none
 |.sc (.slice none 0 0)=>some (0,[])
 |.sc (.string s)=>if sz=1/\s.size<=9223372036854775807 then some (s.size,s.data.toList.map λb=>.sc (.int .u8 (b.toNat:Int))) else none
 |_=>none
def ck{sz m:Nat}{ds:List PV}(hS:Sim C S w)(h:Y5 S sz x=some (m,ds))(z:Rel C S w x u):
  ∃news:List Value,SrcOk P w sz u m news/\RelL C S w ds news.toArray/\m<=xx:=by
 have d:∀(b o cap:Nat) (c:Array Value) (e:TypeId) (fz:Nat × Nat) (ds:List PV),w.heap[b]?=some (.cells c e fz)->ds.length=m*sz->(ds≠[]->o+ds.length<=c.size) ->
   (∀(i:Nat) (v:Value),i<ds.length->c[o+i]?=some v->v.oneCell'=true)->(∀(i:Nat) (p:PV) (v:Value),ds[i]?=some p->c[o+i]?=some v->Rel C S w p v) ->
   ∃news:List Value,SrcOk P w sz (.slice (some ⟨b,o,none⟩) m cap) m news/\RelL C S w ds news.toArray:=by
  intro b o cap c e fz ds hb hl hs h1 hr;by_cases hd:ds=[];subst hd;have q:m*sz=0:=by simpa using hl.symm
  refine⟨[],⟨rfl,?_,?_,by simp[q],by simp⟩,by simp[RelL]⟩<;>simp_all[Builtin.firstCells,loadCells,loadCellsFrom];have j:=hs hd;rw[hl]at j;have a1:w.drew.heap[b]?=some (.cells c e fz):=hb;refine⟨(c.extract o (o+m*sz)).toList,⟨rfl,by rw[Array.toArray_toList];grind[fB],by rw[Array.toArray_toList];grind[fB],by simp;omega,?_⟩,?_⟩;grind[List.getElem?_of_mem,Array.getElem?_extract];rw[Array.toArray_toList];refine⟨by simp;omega,λi v hv=>?_,λi p v n hv=>?_⟩<;>grind[Array.getElem?_extract]
 unfold Y5 at h;split at h;rename_i m' ds';split at h
 .rename_i hl;cases h;cases z with
  |lst0 =>
  rename_i cap a;refine⟨[],⟨rfl,?_,?_,by simp,by simp⟩,by simp[RelL],by omega⟩;cases a<;>simp[Builtin.firstCells,loadCells,loadCellsFrom];cases a<;>simp[Builtin.firstCells,loadCells,loadCellsFrom]
  |lst1 hn hm hb hM hs h1 hr =>
  obtain⟨news,k1,k2⟩:=d _ _ _ _ _ _ ds hb hl hs h1 hr;exact⟨news,k1,k2,hm⟩
 cases h;rename_i o ver f off m';split at h;rename_i v e cs hs;split at h
 .rename_i hc;obtain⟨rfl,rfl,j⟩:=hc;cases h;cases z with
  |sl h1 h2 h3 =>
  obtain⟨a,cap,rfl,q1,q2,q3,q4⟩:=h1;obtain⟨hn,l⟩|⟨b,k,c,g1,g2,g3,g4,g5,g6⟩:=hS.cells o v e cs hs;have g:(cs.drop off).take (m*f)=[]:=by rw[l];simp
  rw[g];have q:m*f=0:=by rw[l]at j;simp at j;omega
  refine⟨[],⟨rfl,?_,?_,by simp[q],by simp⟩,by simp[RelL],q2⟩;cases a<;>simp[Builtin.firstCells,loadCells,q,loadCellsFrom];cases a<;>simp[Builtin.firstCells,loadCells,q,loadCellsFrom];by_cases g:m=0;subst g;refine⟨[],⟨rfl,?_,?_,by simp,by simp⟩,by simp[RelL],q2⟩;cases a<;>simp[Builtin.firstCells,loadCells,loadCellsFrom];cases a<;>simp[Builtin.firstCells,loadCells,loadCellsFrom];have r:a=some ⟨b,off,none⟩:=by
   rcases (h3 v (by rw[hs];rfl)).2 rfl with ⟨z1,z2,_⟩|⟨b',k',a',cap',z1,z2,z3,z4⟩
   exact absurd z2 g;rw[g1]at z1;cases z1;cases z2;exact z4 g
  subst r;have t:∀(i:Nat) (p:PV),((cs.drop off).take (m*f))[i]?=some p->cs[off+i]?=some p:=by intro i p n;by_cases hi:i<m*f;rw[AP hi,AV]at n;exact n;rw[Ao EF]at n;cases n
  obtain⟨news,k1,k2⟩:=d b off cap c e (0,0) ((cs.drop off).take (m*f)) g2 EF (λ_=>by simp;omega) (λi v hi hv=>g5 (off+i) v (by simp at hi;omega) hv) (λi p v n hv=>g6 (off+i) p v (t i p n) hv);grind
 cases h;cases h;cases h;cases z;exact⟨[],⟨rfl,by simp[Builtin.firstCells],by simp[Builtin.firstCells],by simp,by simp⟩,by simp[RelL],by omega⟩;rename_i s;split at h;rename_i hc;obtain⟨rfl,hc⟩:=hc;cases h;cases z;have hf:∀W:World,(Builtin.firstCells 1 s.size (.string s)).run P W=.ok (s.data.toList.map λb=>Value.int .u8 (b.toNat:Int)).toArray W:=by intro W;simp[Builtin.firstCells];apply Array.ext';simp
 refine⟨_,⟨rfl,hf w,hf w.drew,by simp,λv hv=>by obtain⟨b,_,rfl⟩:=Aj.1 hv;rfl⟩,⟨by simp,λi v hv=>?_,λi c v hc hv=>?_⟩,by unfold xx;omega⟩;rw[AH,Ai,An]at hv;obtain⟨b,_,rfl⟩:=hv;rfl;rw[Ai,An]at hc;rw[AH,Ai,An]at hv;obtain⟨b,a0,rfl⟩:=hc;obtain⟨b',y,rfl⟩:=hv;rw[a0]at y;cases y;exact .sc _;cases h;cases h
def Wt{ds:List PV}{vs us:List Value}(h:RelL C S w cs vs.toArray)(k:RelL C S w ds us.toArray)(rest:List Value):
  (cs++ds).length<=(vs++us++rest).length/\(∀(i:Nat) (v:Value),i<(cs++ds).length->(vs++us++rest)[i]?=some v->v.oneCell'=true) /\
  ∀(i:Nat) (p:PV) (v:Value),(cs++ds)[i]?=some p->(vs++us++rest)[i]?=some v->Rel C S w p v:=by
 obtain⟨h1,h2,h3⟩:=h;obtain⟨k1,a,b⟩:=k;simp only[B1,AH]at h1 h2 h3 k1 a b;grind
end
theorem Sim.nilObject'(h:Sim C S w){ver:Nat}(hf:Fresh C S o ver)(e:TypeId):
  Sim (C.put o ver none) (S.set o (.cells ver e [])) w/\Step C S w (C.put o ver none) (S.set o (.cells ver e [])) w:=by
 have a:∀i,i≠o->(C.put o ver none).loc i=C.loc i:=λi hi=>by simp_all[Ctx.put]
 have g:(C.put o ver none).loc o=none:=by simp[Ctx.put]
 have st:Step C S w (C.put o ver none) (S.set o (.cells ver e [])) w :=
  Sim.step_new hf rfl _ rfl ⟨rfl,Af _⟩ rfl (Af _) (λ_ _=>rfl) (λb k n=>nomatch n)
 refine⟨⟨?_,?_,?_,?_,?_⟩,st⟩;intro i ho;by_cases hc:i=o;grind[Ctx.put];rw[q10 _ _ _ _ hc]at ho;have:=h.lt i ho;grind[Ctx.put];intro i v hv;by_cases hc:i=o;subst hc;rw[q11]at hv;cases hv;grind[Ctx.put];rw[q10 _ _ _ _ hc]at hv;have:=h.clk i v hv;grind[Ctx.put];intro i o' b k k' ho c hl d;by_cases hc:i=o;simp_all;by_cases f:o'=o;simp_all;rw[a i hc]at hl;rw[a o' f]at d;rw[q10 _ _ _ _ hc]at ho;rw[q10 _ _ _ _ f]at c;exact h.O i o' b k k' ho c hl d;intro i ver q cs' hs;by_cases hc:i=o;simp_all[q11];rw[q10 _ _ _ _ hc]at hs;obtain hn|⟨b,k,r,g1,j,g3,g4,s,t⟩:=h.cells i ver q cs' hs;simp_all;exact .inr ⟨b,k,r,(a i hc).trans g1,j,g3,g4,s,λi p v u hv=>(t i p v u hv).mono st⟩;intro i ver es hs;by_cases hc:i=o;simp_all[q11];rw[q10 _ _ _ _ hc]at hs;obtain⟨b,k,ms,cl,g1,j,g3,g4⟩:=h.maps i ver es hs;exact⟨b,k,ms,cl,(a i hc).trans g1,j,g3,λi x m l hm=>⟨(g4 i x m l hm).1,(g4 i x m l hm).2.mono st⟩⟩
section
variable {P:Program} {r:Rd} {n N:Nat} {Q:Exit->(Nat->PV)->Store->Prop} {F:Nat->PV} {S:Store}
structure ElemOk (P:Program) (t e:TypeId) (z:Value) (by_:Nat):Prop where
 ty:P.underlying t=some (.slice e)
 pos:P.cellsOf e≠0
 zero:Program.zeroOf P e=some z
 zsize:z.cells.size=P.cellsOf e
 bytes:Program.bytesOf' P e=some by_
 bpos:by_≠0
def QT(P:Program)(t u:TypeId):Bool:=u==t||(match P.underlying u with|some .string=>true|_=>false)
variable {ty:TypeId}
def Ke{u e:TypeId}(b:P.underlying t=some (.slice e))(a:QT P t u=true)(s x:Value)(w:World):(Builtin.append_ #[t,u] ty #[s,x]).run P w=(Builtin.append_ #[t,t] ty #[s,x]).run P w:=by
 unfold QT at a;rw[Dw]at a;obtain a|a:=a;rw[eq_of_beq a];have hs:P.underlying u=some .string:=by split at a;omega;cases a
 unfold Builtin.append_;simp only[AH,Bp,Bk,Sem.run_bind,run_underlying b,Aq];cases s with
 |slice base n cap=>simp only[Sem.run_bind,run_underlying b,run_underlying hs,Aq,Sem.run_pure]
 |_=>rfl
def Wu{o:Oper}{s x:Operand}{u e:TypeId}{v:Value}(ho:o.op=.call { callee:=.builtin .append,args:=#[s,x],argTypes:=#[t,u] })(b:P.underlying t=some (.slice e))(c:QT P t u=true)
  (h:(Builtin.append_ #[t,t] o.type #[a.eval s,a.eval x]).run P w=.ok v w'):(execOp a.eval o).run P w=.ok (.value v) w':=by
 rw[<-Ke b c]at h;unfold execOp;grind[resolve,invoke,builtin,Sem.run_bind,Sem.run_pure,Result.andThen_ok]
theorem fC{o:Oper}{s x:Operand}{u e:TypeId}{by_ id ver m:Nat}{ds:List PV}(ho:o.op=.call { callee:=.builtin .append,args:=#[s,x],argTypes:=#[t,u] })(hu:QT P t u=true)
  (q:ElemOk P t e z by_) (hs:ev F s=.sl id ver (P.cellsOf e) 0 k) (hid:S id=.cells ver e cs) (hk:k*P.cellsOf e<=cs.length) (hx:Y5 S (P.cellsOf e) (ev F x)=some (m,ds)) (hb:(k+m)*by_<=140737488355328) (hm:k+m<=140737488355328)
  (hK:K (.sl id (ver+1) (P.cellsOf e) 0 (k+m)) (S.set id (.cells (ver+1) e (cs.take (k*P.cellsOf e)++ds)))):PO P r n o F S K:=by
 intro G hG C w a N st next Q' a0;have e1:ev G s=_:=(hG s (by simp_all[Op.operands,Call.operands])).trans hs;have e2:ev G x=ev F x:=hG x (by simp_all[Op.operands,Call.operands]);rw[<-e2]at hx;have r1:=st.ev s;rw[e1]at r1;obtain⟨news,f,a4,_⟩:=ck (P:=P) st.sim hx (st.ev x);have b7:∀c,o.op≠.defer c:=by intro c hc;rw[ho]at hc;cases hc
 have d4:k+m<=xx:=AF hm (by simp[xx]);generalize hv:a.eval s=v at r1;cases r1 with
 |sl h1 h2 h3 =>
 obtain⟨ad,cap,rfl,q1,q2,q3,q4⟩:=h1;have c8:=(h3 ver (by rw[hid];rfl)).2 rfl;have a6:=st.sim.cells id ver e cs hid;have a1:∀(C':Ctx) (w':World) (b8:Option Addr) (y b':Nat),(C.next<=C'.next/\ver+1<C'.clock)->C'.loc id=some (b',y*P.cellsOf e)->b8=some ⟨b',0,none⟩->k+m<=y->y<=maxLen ->
   Rel C' (S.set id (.cells (ver+1) e (cs.take (k*P.cellsOf e)++ds))) w' (.sl id (ver+1) (P.cellsOf e) 0 (k+m)) (.slice b8 (k+m) y):=by
  intro C' w' b8 y b' hn hl d1 d6 d7;refine .sl ⟨_,_,rfl,d6,d4,d7,λ_=>⟨_,_,d1⟩⟩ ⟨Bw h2.1 hn.1,hn.2⟩ λv0 a7=>?_;rw[q11]at a7;cases a7;exact⟨Af _,λ_=>.inr ⟨b',_,_,_,hl,rfl,λ_=>⟨d1,rfl⟩,λ_=>d1⟩⟩
 obtain⟨hn,d0⟩|⟨b,kk,c,g1,g2,g3,g4,g5,g6⟩:=a6
 ·-- nothing yet
  have hz:k*P.cellsOf e=0:=by rw[d0]at hk;simpa using hk
  have e4:k=0:=by obtain h|h:=Nat.mul_eq_zero.1 hz;exact h;exact absurd h q.pos
  obtain⟨_,_,_,d8⟩|⟨b',k',_,_,z1,_⟩:=c8;cases d8;subst d0;simp only[Dh,DU,AI,A3]at hK hb hm d4 a1;by_cases d9:m=0;subst d9;have c6:news=[]:=Av (by rw[f.size];simp);have e0:ds=[]:=Av (by rw[a4.1,c6];rfl);subst c6;subst e0;have d:=Wu (P:=P) (a:=a) (w:=w) ho q.ty hu (by rw[hv];exact fA (ty:=o.type) q.ty q.pos f (BO 0));obtain⟨t1,t2⟩:=st.sim.turn (l:=C.loc id) (ver':=ver+1) (cs':=[]) hid EA (λh=>absurd h EA) (w':=w) ⟨⟨rfl,rfl,rfl,Af _,λ_ _ _=>rfl⟩,Af _⟩ (.inl ⟨hn,rfl⟩);refine qx b7 d (a0 _ _ _ _ _ hK ?_ t1 t2);refine .sl ⟨_,_,rfl,Af _,by omega,by omega,λh=>absurd rfl h⟩ ⟨h2.1,by simp only[Ctx.at];omega⟩ λv0 a7=>?_;rw[q11]at a7;cases a7;exact⟨Af _,λ_=>.inl ⟨by simp[Ctx.at,hn],rfl,rfl,rfl⟩⟩;have d:=Wu (P:=P) (a:=a) (w:=w) ho q.ty hu (by rw[hv];exact cj (ty:=o.type) (olds:=[]) q.ty q.pos q.zero q.bytes f (by simp[Builtin.firstCells]) EA (by simpa using hb) q.bpos);have d2:m<=grownCap w m 0 e:=by have:=grownCap_ge w m 0 e;exact this
  have d3:grownCap w m 0 e<=maxLen:=grownCap_le_maxLen w m 0 e (by unfold maxLen;omega);simp only[A3]at d;have a8:(#[]++news.toArray++Builtin.zeroCells z.cells (grownCap w m 0 e-m):Array Value).size=grownCap w m 0 e*P.cellsOf e:=by simp only[Cz,B1,Ag,A3,size_zeroCells,q.zsize,f.size];rw[<-Nat.add_mul];congr 1;omega
  have g:=Wt (cs:=[]) (vs:=[]) (by simp[RelL]) a4 (Builtin.zeroCells z.cells (grownCap w m 0 e-m)).toList;simp only[AI]at g;have a2:∀i:Nat,(#[]++news.toArray++Builtin.zeroCells z.cells (grownCap w m 0 e-m):Array Value)[i]?=(news++(Builtin.zeroCells z.cells (grownCap w m 0 e-m)).toList)[i]?:=by intro i;rw[<-Array.getElem?_toList];simp
  obtain⟨t1,t2⟩:=st.sim.turn (l:=some (w.heap.size,grownCap w m 0 e*P.cellsOf e)) (ver':=ver+1) (cs':=ds) hid EA (λh=>absurd h EA)
   (w':=w.drew.alloc (.cells (#[]++news.toArray++Builtin.zeroCells z.cells (grownCap w m 0 e-m)) e)) ⟨⟨rfl,rfl,rfl,by simp,λj hj _=>Z3 w.drew _ j hj⟩,Db _⟩
   (.inr ⟨w.heap.size,_,_,rfl,.inl (Af _),QP w.drew _,a8,by rw[<-a8];have:=g.1;simp at this ⊢;omega,λi v hi hv=>g.2.1 i v hi (by rw[<-a2];exact hv),λi p v hp hv=>g.2.2 i p v hp (by rw[<-a2];exact hv)⟩)
  refine qx b7 d (a0 _ _ _ _ _ hK ?_ t1 t2);have:=a1 (C.at id (ver+1) (some (w.heap.size,grownCap w m 0 e*P.cellsOf e))) (w.drew.alloc (.cells (#[]++news.toArray++Builtin.zeroCells z.cells (grownCap w m 0 e-m)) e)) (some ⟨w.heap.size,0,none⟩) (grownCap w m 0 e) w.heap.size ⟨Af _,by simp only[Ctx.at];omega⟩ (by simp[Ctx.at]) rfl d2 d3;omega;rw[hn]at z1;cases z1
 -- it lies in block b
 obtain⟨z1,_⟩|⟨b',k',b8,y,z1,z2,z3,z4⟩:=c8;rw[g1]at z1;cases z1;rw[g1]at z1;cases z1;cases z2;obtain⟨rfl,a9⟩:=z3 rfl;have a5:c.size=cap*P.cellsOf e:=g3.trans a9.symm;by_cases a3:k+m<=cap;have d:=Wu (P:=P) (a:=a) (w:=w) ho q.ty hu (by rw[hv];exact Kd (ty:=o.type) q.ty q.pos f g2 a3 a5);have d5:k*P.cellsOf e<=c.size:=by rw[a5];exact Cx _ q1
 have e3:k*P.cellsOf e+news.length<=c.size:=by rw[f.size,a5,<-Nat.add_mul];exact Cx _ a3
 have hold:RelL C S w (cs.take (k*P.cellsOf e)) (c.toList.take (k*P.cellsOf e)).toArray:=by refine⟨by simp;omega,λi v hv=>?_,λi p v hp hv=>?_⟩;rw[AH]at hv;have hi:=(Ad.1 hv).1;simp only[Az]at hi;rw[AP EA,Array.getElem?_toList]at hv;exact g5 i v EA hv;have hi:=(Ad.1 hp).1;simp only[Az]at hi;rw[AP EA]at hp;rw[AH,AP EA,Array.getElem?_toList]at hv;exact g6 i p v hp hv
 have g:=Wt hold a4 (c.toList.drop (k*P.cellsOf e+news.length));obtain⟨t1,t2⟩:=st.sim.turn (l:=C.loc id) (ver':=ver+1) (cs':=cs.take (k*P.cellsOf e)++ds) hid EA (λh=>absurd h EA)
  (w':=w.setRow b (c.toList.take (k*P.cellsOf e)++news++c.toList.drop (k*P.cellsOf e+news.length)).toArray)
  (by rw[g1];exact⟨⟨rfl,rfl,rfl,by simp,λj hj c6=>setRow_other w b j _ (λe=>c6 (by rw[e];rfl))⟩,Af _⟩)
  (.inr ⟨b,cap*P.cellsOf e,_,by rw[g1,a9],.inr (by rw[g1];rfl),setRow_heap w b c _ e _ g2,by simp;omega,by have:=g.1;simp at this ⊢;omega,λi v hi hv=>g.2.1 i v hi (by rw[AH]at hv;exact hv),λi p v hp hv=>g.2.2 i p v hp (by rw[AH]at hv;exact hv)⟩)
 refine qx b7 d (a0 _ _ _ _ _ hK ?_ t1 t2);exact a1 _ _ _ cap b ⟨Af _,by simp only[Ctx.at];omega⟩ (by simp[Ctx.at,g1,a9]) rfl a3 q3;have c7:=fB (P:=P) (w:=w.drew) (b:=b) (k:=k) (cap:=cap) (sz:=P.cellsOf e) (c:=c) (e:=e) (fz:=(0,0)) g2 0 EA;rw[A3]at c7;have d:=Wu (P:=P) (a:=a) (w:=w) ho q.ty hu (by rw[hv];exact cj (ty:=o.type) (olds:=(c.extract 0 (k*P.cellsOf e)).toList) q.ty q.pos q.zero q.bytes f EA EA hb q.bpos);have d2:=grownCap_ge w (k+m) cap e;have d3:grownCap w (k+m) cap e<=maxLen:=grownCap_le_maxLen w (k+m) cap e (by unfold maxLen;omega);have d5:k*P.cellsOf e<=c.size:=by rw[a5];exact Cx _ q1
 rw[Array.toArray_toList]at d;have a8:(c.extract 0 (k*P.cellsOf e)++news.toArray++Builtin.zeroCells z.cells (grownCap w (k+m) cap e-(k+m)):Array Value).size=grownCap w (k+m) cap e*P.cellsOf e:=by simp only[Cz,B1,size_zeroCells,q.zsize,f.size,Array.size_extract,Ek,Bt d5,<-Nat.add_mul];congr 1;omega
 have hold:RelL C S w (cs.take (k*P.cellsOf e)) (c.extract 0 (k*P.cellsOf e)).toList.toArray:=by rw[Array.toArray_toList];refine⟨by simp;omega,λi v hv=>?_,λi p v hp hv=>?_⟩;rw[B9]at hv;split at hv;rw[A3]at hv;exact g5 i v EA hv;cases hv;have hi:=(Ad.1 hp).1;simp only[Az]at hi;rw[AP EA]at hp;rw[B9]at hv;split at hv;rw[A3]at hv;exact g6 i p v hp hv;omega
 have g:=Wt hold a4 (Builtin.zeroCells z.cells (grownCap w (k+m) cap e-(k+m))).toList;have a2:∀i:Nat,(c.extract 0 (k*P.cellsOf e)++news.toArray++Builtin.zeroCells z.cells (grownCap w (k+m) cap e-(k+m)):Array Value)[i]? =
   ((c.extract 0 (k*P.cellsOf e)).toList++news++(Builtin.zeroCells z.cells (grownCap w (k+m) cap e-(k+m))).toList)[i]?:=by
  intro i;rw[<-Array.getElem?_toList];simp
 obtain⟨t1,t2⟩:=st.sim.turn (l:=some (w.heap.size,grownCap w (k+m) cap e*P.cellsOf e)) (ver':=ver+1) (cs':=cs.take (k*P.cellsOf e)++ds) hid EA (λh=>absurd h EA)
  (w':=w.drew.alloc (.cells (c.extract 0 (k*P.cellsOf e)++news.toArray++Builtin.zeroCells z.cells (grownCap w (k+m) cap e-(k+m))) e)) ⟨⟨rfl,rfl,rfl,by simp,λj hj _=>Z3 w.drew _ j hj⟩,Db _⟩
  (.inr ⟨w.heap.size,_,_,rfl,.inl (Af _),QP w.drew _,a8,by rw[<-a8];have:=g.1;simp at this ⊢;omega,λi v hi hv=>g.2.1 i v hi (by rw[<-a2];exact hv),λi p v hp hv=>g.2.2 i p v hp (by rw[<-a2];exact hv)⟩)
 refine qx b7 d (a0 _ _ _ _ _ hK ?_ t1 t2);exact a1 _ _ _ (grownCap w (k+m) cap e) w.heap.size ⟨Af _,by simp only[Ctx.at];omega⟩ (by simp[Ctx.at]) rfl d2 d3
def Kf{o:Oper}{s x:Operand}{e:TypeId}{id ver m:Nat}{ds:List PV}(ho:o.op=.call { callee:=.builtin .append,args:=#[s,x],argTypes:=#[t,t] })
  (a:ElemOk P t e z f) (hs:ev F s=.sl id ver (P.cellsOf e) 0 k) (hid:S id=.cells ver e cs) (b:k*P.cellsOf e<=cs.length) (hx:Y5 S (P.cellsOf e) (ev F x)=some (m,ds)) (hb:(k+m)*f<=140737488355328) (hm:k+m<=140737488355328)
  (c:K (.sl id (ver+1) (P.cellsOf e) 0 (k+m)) (S.set id (.cells (ver+1) e (cs.take (k*P.cellsOf e)++ds)))):PO P r n o F S K :=
 fC ho (by simp[QT]) a hs hid b hx hb hm c
def Kg{c:Code}(d e sz:Nat)(k:F d=.sc (.slice none 0 0))(h:∀C:Ctx,S C.next=.dead->∃id v,Fresh C S id v/\PW P r n N c Q (vI F d (.sl id v sz 0 0)) (S.set id (.cells v e []))):PW P r n N c Q F S:=by
 intro C w a st;obtain⟨id,ver,f,h⟩:=h C st.sim.free;obtain⟨k1,g⟩:=st.sim.nilObject' f e;have j:St r (C.put id ver none) (S.set id (.cells ver e [])) w N (vI F d (.sl id ver sz 0 0)) a:=by refine⟨k1,st.size,λi=>?_,r.keep g st.v⟩;by_cases hi:i=d;subst hi;rw[lW];have:=st.fr i;rw[k]at this;generalize a.tmps.getD i undef=v at this;cases this;refine .sl ⟨_,_,rfl,Af _,by unfold xx;omega,by unfold maxLen;omega,λh=>absurd rfl h⟩ (by simp only[Ctx.put];omega) λv0 b=>?_;rw[q11]at b;cases b;simp[Ctx.put];rw[lX _ _ _ _ hi];exact(st.fr i).mono g
 refine wpIn_mono (h _ w a j) ?_;rintro e a' w' ⟨F2,S2,C2,h1,h2,h3,l⟩;exact⟨F2,S2,C2,h1,h2,h3,g.trans l⟩
end
attribute [simp] Ws Xs ZB PX Row.pures Xr yY gd uk jC bQ bM ev Jt yg vI bF bD unP fi Xm bG Yt Z4 Wn bP bO bN Wo QQ xh PV.cells PV.one PV.fit Value.oneCell' zp vJ bU wZ bK Value.cells jW bJ Ys ff fe Y2 Wq Y5 ZD
@[simp] theorem ZAN(a b:Int):(a==b)=decide (a=b):=rfl
def Jw(n:Nat)(z:Value):qw (n+1) z=jW z++qw n z:=by unfold qw jW;generalize z.cells=c;rw[Nat.succ_mul,Nat.add_comm,DG,List.map_append,B3];congr 1;apply Bg;intro i;by_cases h:i<c.size;simp[h,Dn h];simp[h];simp
@[simp] theorem ZAO(z:Value):qw 0 z=[]:=by simp[qw]
@[simp] theorem ZAP(z:Value):qw 1 z=jW z:=by rw[Jw 0 z];simp
@[simp] theorem ZAQ(z:Value):qw 2 z=jW z++jW z:=by rw[Jw 1 z];simp
@[simp] theorem ZAR(z:Value):qw 3 z=jW z++(jW z++jW z):=by rw[Jw 2 z];simp
@[simp] theorem ZAS(z:Value):qw 4 z=jW z++(jW z++(jW z++jW z)):=by rw[Jw 3 z];simp
@[simp] theorem ZAT(cs:List PV)(off:Nat):yl cs off []=cs:=by simp[yl]
@[simp] theorem ZAU(c d:PV)(cs ds:List PV):yl (c::cs) 0 (d::ds)=d::yl cs 0 ds:=by simp[yl]
@[simp] theorem ZAV(c d:PV)(cs ds:List PV)(k:Nat):yl (c::cs) (k+1) (d::ds)=c::yl cs k (d::ds):=by simp[yl,Nat.add_right_comm k 1]
@[simp] theorem ZAW(cs ds:List PV)(off:Nat)(h:off+ds.length<=cs.length):(yl cs off ds).length=cs.length:=by simp[yl];omega
@[simp] theorem fD(S:Store)(o:Nat)(x:Ob):S.set o x o=x:=q11 S o x
theorem jX(S:Store)(o i:Nat)(x:Ob)(h:i≠o):S.set o x i=S i:=q10 S o i x h
@[simp] theorem ZAX(S:Store)(o:Nat)(x y:Ob):(S.set o x).set o y=S.set o y:=Store.set_set S o x y
theorem Y6(x:Int)(h1:-9223372036854775808<=x)(h2:x<=9223372036854775807):IntKind.i64.wrap x=x:=IntWalk.i64_in x ⟨h1,h2⟩
def zL(x:Int):Prop:=-9223372036854775808<=x/\x<=9223372036854775807
def ye(x:Int):PV:=.sc (.int .i64 x)
def um(b:Bool):PV:=.sc (.bool b)
theorem Wv{α:Type}(enc:α->List PV)(k:Nat)(a:∀x,(enc x).length=k):∀(l:List α) (i:Nat),(l.flatMap enc).drop (i*k)=(l.drop i).flatMap enc
 |l,0=>by simp
 |[],i+1=>by simp
 |x::xs,i+1=>by rw[Ax,List.drop_succ_cons,<-Wv enc k a xs i,CG,a,Nat.add_mul,Ei];simp_all
variable {α:Type}
def mK(enc:α->List PV)(k:Nat)(a:∀x,(enc x).length=k)(l:List α)(i:Nat)(hi:i<l.length):(l.flatMap enc).drop (i*k)=enc l[i]++(l.drop (i+1)).flatMap enc:=by grind[Wv,List.drop_eq_getElem_cons]
theorem Ww(enc:α->List PV)(k:Nat)(a:∀x,(enc x).length=k):∀(l:List α),(l.flatMap enc).length=l.length*k
 |[]=>by simp
 |x::xs=>by rw[Ax,Ak,a,Ww enc k a xs,Ab,Nat.add_mul];omega
theorem Jx(enc:α->List PV)(k:Nat)(a:∀x,(enc x).length=k):∀(l:List α) (i:Nat),(l.flatMap enc).take (i*k)=(l.take i).flatMap enc
 |l,0=>by simp
 |[],i+1=>by simp
 |x::xs,i+1=>by rw[Ax,Dx,Ax,<-Jx enc k a xs i,List.take_append,a,Nat.add_mul,Ei];grind
theorem Sim.turnMap(h:Sim C S w){ver:Nat}{es es':List (Value × PV)}(hs:S o=.map ver es)(hl:C.loc o=some (b,k))(f:w.grownBy w' (some b)/\w.drawn<=w'.drawn){ms:Array MapEntry}{cl:Nat}
  (hb:w'.heap[b]?=some (.map ms cl)) (n:es'.length=ms.size) (z:∀(i:Nat) (e:Value × PV) (m:MapEntry),es'[i]?=some e->ms[i]?=some m->m.key=e.1/\Rel C S w e.2 m.val) :
  Sim C (S.set o (.map ver es')) w'/\Step C S w C (S.set o (.map ver es')) w':=by
 have q:S o≠.dead:=by rw[hs];simp
 have g:∀i b' k',i≠o->S i≠.dead->C.loc i=some (b',k')->some b'≠some b:=by intro i b' k' hi t l d;cases d;exact hi (h.O i o b k' k t q l hl)
 have a:∀i,S.set o (.map ver es') i≠.dead->S i≠.dead:=by intro i hi;by_cases hc:i=o;simp_all;simp_all[q10]
 have st:Step C S w C (S.set o (.map ver es')) w':=by refine⟨f.1.os,⟨f.1.tape,f.2⟩,f.1.output,f.1.size,Af _,Af _,λc hc hM=>⟨f.1.block c hc ?_,?_⟩,?_⟩;intro d;cases d;exact hM ⟨o,k,q,hl⟩;rintro⟨i,k',t,l⟩;exact hM ⟨i,k',a i t,l⟩;intro i v1 hv;by_cases hc:i=o;subst hc;rw[q11]at hv;cases hv;exact .inr ⟨ver,by rw[hs];rfl,Af _,λ_=>rfl⟩;simp_all[q10]
 refine⟨⟨λi hi=>h.lt i (a i hi),λi v hv=>(by by_cases hc:i=o;subst hc;rw[q11]at hv;cases hv;exact h.clk i ver (by rw[hs];rfl);rw[q10 _ _ _ _ hc]at hv;exact h.clk i v hv),λi j b1 k1 k2 hi hj=>h.O i j b1 k1 k2 (a i hi) (a j hj),?_,?_⟩,st⟩;intro i v' e' ds hi;by_cases hc:i=o;simp_all;rw[q10 _ _ _ _ hc]at hi;obtain hn|⟨b1,k1,c',g1,r,g3,g4,g5,g6⟩:=h.cells i v' e' ds hi;exact .inl hn;exact .inr ⟨b1,k1,c',g1,(f.1.block b1 (qX r) (g i b1 k1 hc (by rw[hi];simp) g1)).trans r,g3,g4,g5,λj p v hp hv=>(g6 j p v hp hv).mono st⟩;intro i s fs hi;by_cases hc:i=o;subst hc;rw[q11]at hi;cases hi;exact⟨b,k,ms,cl,hl,hb,n,λj e m d hm=>⟨(z j e m d hm).1,(z j e m d hm).2.mono st⟩⟩;rw[q10 _ _ _ _ hc]at hi;obtain⟨b1,k1,u,y,g1,r,g3,g4⟩:=h.maps i s fs hi;exact⟨b1,k1,u,y,g1,(f.1.block b1 (qX r) (g i b1 k1 hc (by rw[hi];simp) g1)).trans r,g3,λj x m d hm=>⟨(g4 j x m d hm).1,(g4 j x m d hm).2.mono st⟩⟩
theorem Sim.newMap'(h:Sim C S w){ver:Nat}(hf:Fresh C S o ver):
  Sim (C.put o ver (some (w.heap.size,0))) (S.set o (.map ver [])) (w.alloc (.map #[] 0))/\Step C S w (C.put o ver (some (w.heap.size,0))) (S.set o (.map ver [])) (w.alloc (.map #[] 0)):=by
 have a:∀i,i≠o->(C.put o ver (some (w.heap.size,0))).loc i=C.loc i:=λi hi=>by simp_all[Ctx.put]
 have c:(C.put o ver (some (w.heap.size,0))).loc o=some (w.heap.size,0):=by simp[Ctx.put]
 have st:Step C S w (C.put o ver (some (w.heap.size,0))) (S.set o (.map ver [])) (w.alloc (.map #[] 0)) :=
  Sim.step_new hf rfl _ rfl ⟨rfl,Af _⟩ rfl EB (λb hb=>Z3 w _ b hb) (λb k x=>by simp_all)
 refine⟨⟨?_,?_,?_,?_,?_⟩,st⟩;intro i ho;by_cases hc:i=o;grind[Ctx.put];rw[q10 _ _ _ _ hc]at ho;have:=h.lt i ho;grind[Ctx.put];intro i v hv;by_cases hc:i=o;subst hc;rw[q11]at hv;cases hv;grind[Ctx.put];rw[q10 _ _ _ _ hc]at hv;have:=h.clk i v hv;grind[Ctx.put];intro i j b k k' ho g hl d;by_cases hc:i=o<;>by_cases f:j=o;omega;subst hc;rw[c]at hl;rw[a j f]at d;rw[q10 _ _ _ _ f]at g;have:=h.M_lt ⟨j,k',g,d⟩;simp_all;subst f;rw[c]at d;rw[a i hc]at hl;rw[q10 _ _ _ _ hc]at ho;have:=h.M_lt ⟨i,k,ho,hl⟩;simp_all;rw[a i hc]at hl;rw[a j f]at d;rw[q10 _ _ _ _ hc]at ho;rw[q10 _ _ _ _ f]at g;exact h.O i j b k k' ho g hl d;intro i ver' q cs' hs;by_cases hc:i=o;simp_all;rw[q10 _ _ _ _ hc]at hs;obtain hn|⟨b,k,r,g1,l,g3,g4,s,t⟩:=h.cells i ver' q cs' hs;simp_all;exact .inr ⟨b,k,r,(a i hc).trans g1,(Z3 w _ b (qX l)).trans l,g3,g4,s,λi p v u hv=>(t i p v u hv).mono st⟩;intro i ver' es hs;by_cases hc:i=o;grind[q11,QP];rw[q10 _ _ _ _ hc]at hs;obtain⟨b,k,ms,cl,g1,l,g3,g4⟩:=h.maps i ver' es hs;exact⟨b,k,ms,cl,(a i hc).trans g1,(Z3 w _ b (qX l)).trans l,g3,λi e m n hm=>⟨(g4 i e m n hm).1,(g4 i e m n hm).2.mono st⟩⟩
def jO(d:TypeDesc)(k:Value):List (Value × PV)->Nat->Option (Option (Nat × PV))
 |[],_=>some none
 |e::es,i =>
  match Instr.sameNow d k e.1 with
  |some true=>some (some (i,e.2))
  |some false=>jO d k es (i+1)
  |none=>none
def VN(d:TypeDesc):Bool :=
 match d with
 |.int _=>true
 |.string=>true
 |.bool=>true
 |_=>false
section
variable {P:Program} {r:Rd} {n N:Nat} {Q:Exit->(Nat->PV)->Store->Prop} {F:Nat->PV} {S:Store}
theorem cn{k:Value}:∀(es:List (Value × PV)) (ms:List MapEntry) (i:Nat) (a:Option (Nat × PV)),es.length=ms.length ->
  (∀(j:Nat) (e:Value × PV) (m:MapEntry),es[j]?=some e->ms[j]?=some m->m.key=e.1/\Rel C S w e.2 m.val)->jO d k es i=some a ->
  (a=none/\Instr.findNow d k ms i=some none)\/∃j p v,a=some (j,p)/\Instr.findNow d k ms i=some (some (j,v))/\Rel C S w p v
 |[],[],i,a,_,_,h=>by cases h;exact .inl ⟨rfl,rfl⟩
 |e::es,m::ms,i,a,hl,b,h=>by obtain⟨c,hv⟩:=b 0 e m rfl rfl;simp only[jO]at h;simp only[Instr.findNow,c];split at h;grind;rename_i hs;simp only[hs];exact cn es ms (i+1) a (by simpa using hl) (λj e m f hm=>b (j+1) e m (by simpa using f) (by simpa using hm)) h;cases h
def Wx(a:P.underlying t=some d)(c:VN d=true)(b:Bool)(k:Value)(w:World):(Instr.checkKey b 10000 t k).run P w=.ok () w:=by show (Instr.checkKey b (9999+1) t k).run P w=_;unfold Instr.checkKey;simp only[Sem.run_bind,run_underlying a,Aq];cases d<;>simp[VN]at c<;>rfl
def Y7(ok:Bool)(z:Value)(res:Option (Nat × PV)):PV :=
 match res with
 |some (_,p)=>if ok=true then .tup [p,.sc (.bool true)] else p
 |none=>if ok=true then .tup [Jt z,.sc (.bool false)] else Jt z
variable {kt et:Nat}{es:List (Value × PV)}
def Yv{o:Oper}{t id ver:Nat}{x i:Operand}{ok:Bool}{k:Value}{l:Option (Nat × PV)}(ho:o.op=.lookup t x i ok)(ht:P.underlying t=some (.map kt et))
  (hk:P.underlying kt=some d) (hd:VN d=true) (hx:ev F x=.mp id ver) (hi:ev F i=.sc k) (hs:S id=.map ver es) (hf:jO d k es 0=some l) (hz:Program.zeroOf P et=some z)
  (hK:K (Y7 ok z l) S):PO P r n o F S K:=by
 intro G hG C w a N st next Q' f;have e1:=st.ev x;have e2:=st.ev i;rw[(hG x (by simp[ho,Op.operands])).trans hx]at e1;rw[(hG i (by simp[ho,Op.operands])).trans hi]at e2;generalize s:a.eval x=v1 at e1;generalize u:a.eval i=v2 at e2;cases e2;obtain⟨b,k0,ms,cl,g1,g2,g3,g4⟩:=st.sim.maps id ver es hs;cases e1 with
 |mp h1 h2 h3 =>
 obtain⟨b',rfl⟩:=h1;obtain⟨b2,k2,q1,q2⟩:=(h3 ver (by rw[hs];rfl)).2 rfl;rw[g1]at q1;cases q1;cases q2;have y:∀c,o.op≠.defer c:=by intro c hc;rw[ho]at hc;cases hc
 have h:(getObj b).run P w=.ok (.map ms cl) w:=by simp only[getObj,Sem.run,g2]
 have q:=cn (C:=C) (w:=w) es ms.toList 0 l EA (λj e m he hm=>g4 j e m he EI) hf;obtain⟨rfl,hn⟩|⟨j,p,v,rfl,hn,a0⟩:=q;have g:(execOp a.eval o).run P w=.ok (.value (if ok then .tuple #[z,.bool false] else z)) w:=by unfold execOp;simp only[ho,s,u,Instr.lookup,Sem.run_bind,run_underlying ht,Aq,h,Sem.run_pure,Wx hk hd,Instr.findKey,run_underlying hk,hn,Xn hz]
 refine qx y g (f _ _ _ _ _ hK ?_ st.sim (.refl _ _ _));cases ok;exact bC z;exact .tup rfl (by
  intro i c v hc hv
  match i with
  |0=>grind[bC]
  |1=>have hc:some (PV.sc (.bool false))=some c:=hc;have hv:some (Value.bool false)=some v:=hv;cases hc;cases hv;exact .sc _
  |i+2=>simp at hc)
 have g:(execOp a.eval o).run P w=.ok (.value (if ok then .tuple #[v,.bool true] else v)) w:=by unfold execOp;simp only[ho,s,u,Instr.lookup,Sem.run_bind,run_underlying ht,Aq,h,Sem.run_pure,Wx hk hd,Instr.findKey,run_underlying hk,hn]
 refine qx y g (f _ _ _ _ _ hK ?_ st.sim (.refl _ _ _));cases ok;exact a0;exact .tup rfl (by
  intro i c v hc hv
  match i with
  |0=>simp at hc hv;subst hc;subst hv;omega
  |1=>simp at hc hv;subst hc;subst hv;exact .sc _
  |i+2=>simp at hc)
theorem cq{k:Value}:∀(es:List (Value × PV)) (i j:Nat) (p:PV),jO d k es i=some (some (j,p))->i<=j/\j<i+es.length
 |[],_,_,_,h=>by cases h
 |e::es,i,j,p,h=>by simp only[jO]at h;split at h;cases h;simp;have:=cq es (i+1) j p h;grind;cases h
theorem mL{k:Value}:∀(es:List (Value × PV)) (i j:Nat) (p:PV),jO d k es i=some (some (j,p))->∃e,es[j-i]?=some e/\Instr.sameNow d k e.1=some true
 |[],_,_,_,h=>by cases h
 |e::es,i,j,p,h=>by simp only[jO]at h;split at h;simp_all;obtain⟨a,h1,h2⟩:=mL es (i+1) j p h;have:=cq es (i+1) j p h;grind;cases h
theorem Kh(a b:ByteArray):(a==b)=true<->a=b:=by constructor;intro h;cases a;cases b;have h':(ByteArray.mk _).beq (ByteArray.mk _)=true:=h;grind[ByteArray.beq];rintro rfl;cases a;show (ByteArray.mk _).beq (ByteArray.mk _)=true;simp[ByteArray.beq]
def Ki{k:Value}(h:Instr.sameNow d k u=some true):Instr.sameBits 10000 u k=true/\u=k:=by unfold Instr.sameNow at h;grind[Instr.sameBits,Kh]
variable {cl:Nat}
def cr{ms:Array MapEntry}(h:w.heap[b]?=some (.map ms cl)):(getObj b).run P w=.ok (.map ms cl) w:=by simp_all[getObj,Sem.run]
def ct{ms:Array MapEntry}(o:Obj)(h:w.heap[b]?=some (.map ms cl)):(setObj b o).run P w=.ok () (w.putObj b o):=by simp only[setObj,Sem.run,h];rfl
def cu{o':Obj}:w.grownBy (w.putObj b o') (some b)/\w.drawn<=(w.putObj b o').drawn :=
 ⟨⟨rfl,rfl,rfl,by simp,λj _ a=>BC (λe=>a (by rw[e]))⟩,Af _⟩
def jD(k:Value)(p:PV)(es:List (Value × PV))(res:Option (Nat × PV)):List (Value × PV) :=
 match res with
 |some (j,_)=>es.set j (k,p)
 |none=>es++[(k,p)]
def QU{o:Oper}{t id ver:Nat}{x i y:Operand}{k:Value}{l:Option (Nat × PV)}(ho:o.op=.mapUpdate t x i y\/o.op=.insert t x i y)(ht:P.underlying t=some (.map kt et))
  (hk:P.underlying kt=some d) (hd:VN d=true) (hx:ev F x=.mp id ver) (hi:ev F i=.sc k) (hs:S id=.map ver es) (hf:jO d k es 0=some l)
  (hK:K (.sc undef) (S.set id (.map ver (jD k (ev F y) es l)))):PO P r n o F S K:=by
 intro G hG C w a N st next Q' f;have ops:x∈o.op.operands/\i∈o.op.operands/\y∈o.op.operands:=by obtain ho|ho:=ho<;>simp[ho,Op.operands]
 have e1:=st.ev x;have e2:=st.ev i;have e3:=st.ev y;rw[(hG x ops.1).trans hx]at e1;rw[(hG i ops.2.1).trans hi]at e2;rw[hG y ops.2.2]at e3;generalize a5:a.eval x=v1 at e1;generalize a6:a.eval i=v2 at e2;cases e2;obtain⟨b,k0,ms,cl,g1,z,g3,g4⟩:=st.sim.maps id ver es hs;cases e1 with
 |mp h1 h2 h3 =>
 obtain⟨b',rfl⟩:=h1;obtain⟨b2,k2,q1,q2⟩:=(h3 ver (by rw[hs];rfl)).2 rfl;rw[g1]at q1;cases q1;cases q2;have a0:∀c,o.op≠.defer c:=by intro c hc;obtain ho|ho:=ho<;>(rw[ho]at hc;cases hc)
 have a1:b<w.heap.size:=qX z;have q:=cn (C:=C) (w:=w) es ms.toList 0 l EA (λj e m h hm=>g4 j e m h EI) hf;have a2:∀(w':World),(Instr.mapUpdate t (.map (some b)) k (a.eval y)).run P w=.ok () w'->(execOp a.eval o).run P w=.ok .skip w':=by intro w' hw;unfold execOp;obtain ho|ho:=ho<;>(simp only[ho,a5,a6,Sem.run_bind,hw,Aq];rfl)
 obtain⟨rfl,hn⟩|⟨j,p,v,rfl,hn,a8⟩:=q;have g:=a2 (w.putObj b (.map (ms.push { key:=k,val:=a.eval y,born:=cl }) (cl+1))) (by simp only[Instr.mapUpdate,Sem.run_bind,run_underlying ht,Aq,cr z,Wx hk hd,Instr.findKey,run_underlying hk,hn,Sem.run_pure,ct _ z]);obtain⟨t1,t2⟩:=st.sim.turnMap (es':=es++[(k,ev F y)]) (ms:=ms.push { key:=k,val:=a.eval y,born:=cl }) (cl:=cl+1) hs g1 cu (Ca a1) (by simp[g3]) EI;exact qx a0 g (f _ _ _ _ _ hK (.sc _) t1 t2);obtain⟨e0,a3,s⟩:=mL es 0 j p hf;rw[Ek]at a3;have a9:=cq es 0 j p hf;have u:ms[j]?=some (ms[j]' EA):=EB;have a4:=(g4 j e0 _ a3 u).1;obtain⟨a7,b7⟩:=Ki s;have g:=a2 (w.putObj b (.map (ms.modify j λe=>{ e with key:=k,val:=a.eval y }) cl)) (by simp only[Instr.mapUpdate,Sem.run_bind,run_underlying ht,Aq,cr z,Wx hk hd,Instr.findKey,run_underlying hk,hn,Sem.run_pure,u,AR,Option.getD_some,a4,Instr.keyThatStays,a7,if_true,ct _ z]);obtain⟨t1,t2⟩:=st.sim.turnMap (es':=es.set j (k,ev F y)) (ms:=ms.modify j λe=>{ e with key:=k,val:=a.eval y }) (cl:=cl) hs g1 cu (Ca a1) (by simp[g3]) (by intro jj e m h hm;rw[BN]at hm;rw[BG]at h;by_cases hj:j=jj;subst hj;rw[if_pos rfl]at hm h;rw[u]at hm;rw[if_pos EA]at h;cases h;cases hm;exact⟨rfl,e3⟩;rw[if_neg hj]at hm h;exact g4 jj e m h hm);exact qx a0 g (f _ _ _ _ _ hK (.sc _) t1 t2)
def VO(es:List (Value × PV))(res:Option (Nat × PV)):List (Value × PV) :=
 match res with
 |some (j,_)=>es.eraseIdx j
 |none=>es
def Kj{o:Oper}{t id ver:Nat}{x i:Operand}{k:Value}{h:Option (Nat × PV)}{ts:Array TypeId}(ho:o.op=.call { callee:=.builtin .delete,args:=#[x,i],argTypes:=ts })(s:ts[0]?=some t)(ht:P.underlying t=some (.map kt et))
  (hk:P.underlying kt=some d) (hd:VN d=true) (hx:ev F x=.mp id ver) (hi:ev F i=.sc k) (hs:S id=.map ver es) (hf:jO d k es 0=some h)
  (hK:K (.tup []) (S.set id (.map ver (VO es h)))):PO P r n o F S K:=by
 intro G hG C w a N st next Q' f;have ops:x∈o.op.operands/\i∈o.op.operands:=by simp[ho,Op.operands,Call.operands]
 have e1:=st.ev x;have e2:=st.ev i;rw[(hG x ops.1).trans hx]at e1;rw[(hG i ops.2).trans hi]at e2;generalize a3:a.eval x=v1 at e1;generalize a4:a.eval i=v2 at e2;cases e2;obtain⟨b,k0,ms,cl,g1,u,g3,g4⟩:=st.sim.maps id ver es hs;cases e1 with
 |mp h1 h2 h3 =>
 obtain⟨b',rfl⟩:=h1;obtain⟨b2,k2,q1,q2⟩:=(h3 ver (by rw[hs];rfl)).2 rfl;rw[g1]at q1;cases q1;cases q2;have y:∀c,o.op≠.defer c:=by intro c hc;rw[ho]at hc;cases hc
 have z:b<w.heap.size:=qX u;have l:=cn (C:=C) (w:=w) es ms.toList 0 h EA (λj e m q hm=>g4 j e m q EI) hf;have a0:∀(w':World),(Builtin.delete_ ts o.type #[.map (some b),k]).run P w=.ok (.tuple #[]) w'->(execOp a.eval o).run P w=.ok (.value (.tuple #[])) w':=by intro w' hw;unfold execOp;simp only[ho,a3,a4,resolve,invoke,builtin,Sem.run_bind,Sem.run_pure,Aq,DV,Ap,A8,hw]
 obtain⟨rfl,hn⟩|⟨j,p,v,rfl,hn,a6⟩:=l;have g:=a0 (w.putObj b (.map ms cl)) (by simp only[Builtin.delete_,s,AH,Bp,Bk,Sem.run_bind,run_underlying ht,Aq,cr u,Wx hk hd,Instr.findKey,run_underlying hk,hn,Sem.run_pure,ct _ u]);obtain⟨t1,t2⟩:=st.sim.turnMap (es':=es) (ms:=ms) (cl:=cl) hs g1 cu (Ca z) g3 g4;exact qx y g (f _ _ _ _ _ hK (.tup rfl EB) t1 t2);have a7:=cq es 0 j p hf;have g:=a0 (w.putObj b (.map (ms.eraseIdxIfInBounds j) cl)) (by simp only[Builtin.delete_,s,AH,Bp,Bk,Sem.run_bind,run_underlying ht,Aq,cr u,Wx hk hd,Instr.findKey,run_underlying hk,hn,Sem.run_pure,ct _ u]);have a1:(ms.eraseIdxIfInBounds j).toList=ms.toList.eraseIdx j:=by unfold Array.eraseIdxIfInBounds;rw[dif_pos EA];simp
 have a2:(es.eraseIdx j).length=(ms.eraseIdxIfInBounds j).size:=by
  have a5:es.length=ms.toList.length:=by simpa using g3
  have:(es.eraseIdx j).length=(ms.eraseIdxIfInBounds j).toList.length:=by rw[a1,List.length_eraseIdx,List.length_eraseIdx,a5]
  exact this.trans Array.length_toList
 obtain⟨t1,t2⟩:=st.sim.turnMap (es':=es.eraseIdx j) (ms:=ms.eraseIdxIfInBounds j) (cl:=cl) hs g1 cu (Ca z) a2 (by intro jj e m q hm;rw[<-Array.getElem?_toList,a1,DZ]at hm;rw[DZ]at q;split at q;rename_i hj;rw[if_pos hj]at hm;exact g4 jj e m q (by rw[<-Array.getElem?_toList];exact hm);rename_i hj;rw[if_neg hj]at hm;exact g4 (jj+1) e m q (by rw[<-Array.getElem?_toList];exact hm));exact qx y g (f _ _ _ _ _ hK (.tup rfl EB) t1 t2)
def Kk{o:Oper}(ho:o.op=.makeMap t none)(d:∀C:Ctx,S C.next=.dead->∃id v,Fresh C S id v/\K (.mp id v) (S.set id (.map v []))):PO P r n o F S K:=by
 intro G _ C w a N st next Q' b;obtain⟨id,ver,e,d⟩:=d C st.sim.free;obtain⟨k1,f⟩:=st.sim.newMap' e;refine qx (x:=.value (.map (some w.heap.size))) (w':=w.alloc (.map #[] 0)) EJ ?_ (b _ _ _ _ (.mp id ver) d ?_ k1 f)
 simp_all[execOp,Instr.makeMap];refine .mp ⟨_,rfl⟩ (by simp only[Ctx.put];omega) λv0 c=>?_;rw[q11]at c;cases c;simp[Ctx.put]
def Wy(P:Program)(t:TypeId)(name:String)(k:FuncId):Prop:=∀(v:Value) (w:World),(method (P.types.size+Made.depth) t v name).run P w=.ok (k,v) w
def Y8{o:Oper}{c:Call}{x:Operand}{e:String}{q:PV}{k:FuncId}{R:PV->Store->Prop}(ho:o.op=.call c)(hc:c.callee=.invoke x e)(hx:ev F x=.ifc t q)(hM:Wy P t e k)(hE:qS P k)
  (h:PCalls P k (q::c.args.toList.map (ev F)) S R) (hK:∀p S',R p S'->K p S'):PO P r n o F S K:=by
 intro G hG C w a N st next Q' z;have a0:x∈o.op.operands:=by simp[ho,Op.operands,Call.operands,hc]
 have a1:ev G x=.ifc t q:=(hG x a0).trans hx;have f:∀y∈c.args.toList,ev G y=ev F y:=λy hy=>hG y (by grind[Op.operands,Call.operands]);have g:c.args.toList.map (ev F)=c.args.toList.map (ev G):=AQ λy hy=>(f y hy).symm;rw[g]at h;have b:=st.ev x;rw[a1]at b;generalize hv:a.eval x=v at b;cases b with
 |ifc hq =>
 rename_i u;have j:(execOp a.eval o).run P w=.ok (.enter k (#[u]++c.args.map a.eval)) w:=by
  unfold execOp;have a2:(#[Value.iface t u]++c.args.map a.eval).extract 1 (#[Value.iface t u]++c.args.map a.eval).size=c.args.map a.eval:=by apply Array.ext;simp;simp
  have m:(#[Value.iface t u]++c.args.map a.eval)[0]?=some (.iface t u):=by rw[BB EB];rfl
  simp only[ho,resolve,hc,hv,Sem.run_bind,Sem.run_pure,Aq,invoke,Array.append_empty,m,a2,callMethod,run_program,hM u w];exact hE _ w
 refine qx (x:=.enter k (#[u]++c.args.map a.eval)) (w':=w) EI j ?_;rw[Oper.uponIn_enter];refine⟨λhd=>?_,?_⟩;cases hd;have d:=VG (l:=c.args.toList) st.ev;simp only[Array.toArray_toList]at d;have key:=h C w (#[u]++c.args.map a.eval) st.sim EF (by
  intro i p v s hv;cases i with
  |zero =>
  rw[BB EB]at hv;have s:some q=some p:=s;have hv:some u=some v:=hv;cases s;cases hv;exact hq
  |succ i =>
  rw[Bk]at s;rw[B4 EB]at hv;exact d.2 i p v s (by simpa using hv))
 refine(ft key).mono ?_;grind
end
section
variable {P:Program} {r:Rd} {n N:Nat} {Q:Exit->(Nat->PV)->Store->Prop} {F:Nat->PV} {S:Store}
def mM(C:Ctx)(S:Store)(w:World)(o ver sz e:Nat):Rel (C.put o ver none) (S.set o (.cells ver e [])) w (.sl o ver sz 0 0) (.slice none 0 0):=by refine .sl ⟨_,_,rfl,Af _,by unfold xx;omega,by unfold maxLen;omega,λh=>absurd rfl h⟩ (by simp only[Ctx.put];omega) λv0 a=>?_;rw[q11]at a;cases a;simp[Ctx.put]
def qL {f : FuncId} {fn : Func} {c : Code} (hf : P.funcs[f]? = some fn) (hname : (fn.name == "runtime.NumGoroutine") = false) (hb : fn.body = some c) : qS P f := by
 intro args w;have h1 : fn.name ≠ "runtime.NumGoroutine" := by simpa using hname
 simp[callFunc,hf,h1,hb,mark]
def fE(x:PV)(t:TypeId)(z:Value):Option PV :=
 match x with
 |.ifc t' p=>if t'=t then some (.tup [p,.sc (.bool true)]) else some (.tup [Jt z,.sc (.bool false)])
 |_=>none
def Kl{o:Oper}{x:Operand}{l:TypeId}(ho:o.op=.typeAssert x l t true)(j:P.underlying t=some d)(m:∀ms,d≠.interface ms)(s:Program.zeroOf P t=some z)
  (e:fE (ev F x) t z=some p) (k:K p S):PO P r n o F S K:=by
 intro G y C w a N st next Q' b;have h:=st.ev x;rw[y x (by simp[ho,Op.operands])]at h;have g:∀c,o.op≠.defer c:=by intro c hc;rw[ho]at hc;cases hc
 unfold fE at e;split at e
 .rename_i t' q he;rw[he]at h;generalize hv:a.eval x=v at h;cases h with
  |ifc hq =>
  rename_i u;by_cases f:t'=t
  .rw[if_pos f]at e;cases e;refine qx (x:=.value (.tuple #[u,.bool true])) (w':=w) g ?_ (b _ _ _ _ _ k (.tup rfl ?_) st.sim (.refl _ _ _));unfold execOp;simp only[ho,hv,Instr.typeAssert,Sem.run_bind,run_underlying j,Aq];simp_all;intro i c v hc hv
   match i with
   |0=>grind
   |1=>have hc:some (PV.sc (.bool true))=some c:=hc;have hv:some (Value.bool true)=some v:=hv;cases hc;cases hv;exact .sc _
   |i+2=>simp at hc
  rw[if_neg f]at e;cases e;refine qx (x:=.value (.tuple #[z,.bool false])) (w':=w) g ?_ (b _ _ _ _ _ k (.tup rfl ?_) st.sim (.refl _ _ _));unfold execOp;simp only[ho,hv,Instr.typeAssert,Sem.run_bind,run_underlying j,Aq];cases d<;>first|exact absurd rfl (m _)|(simp only[f,if_false,if_true,Sem.run_bind,Xn s,Aq];rfl)
  intro i c v hc hv
  match i with
  |0=>grind[bC]
  |1=>have hc:some (PV.sc (.bool false))=some c:=hc;have hv:some (Value.bool false)=some v:=hv;cases hc;cases hv;exact .sc _
  |i+2=>simp at hc
 cases e
variable {by_:Nat}{ds:List PV}
def Km{o:Oper}{s x:Operand}{u e:TypeId}{m:Nat}(ho:o.op=.call { callee:=.builtin .append,args:=#[s,x],argTypes:=#[t,u] })(hu:QT P t u=true)
  (g:ElemOk P t e z by_) (hs:ev F s=.sc (.slice none 0 0)) (hx:Y5 S (P.cellsOf e) (ev F x)=some (m,ds)) (hb:m*by_<=140737488355328) (hm:m<=140737488355328)
  (hK:∀C:Ctx,S C.next=.dead->∃id v,Fresh C S id v/\K (.sl id v (P.cellsOf e) 0 m) (S.set id (.cells v e ds))):PO P r n o F S K:=by
 intro G hG C w a N st next Q' f;have e1:ev G s=_:=(hG s (by grind[Op.operands,Call.operands])).trans hs;have e2:ev G x=ev F x:=hG x (by simp[ho,Op.operands,Call.operands]);rw[<-e2]at hx;have r1:=st.ev s;rw[e1]at r1;obtain⟨news,b,h,_⟩:=ck (P:=P) st.sim hx (st.ev x);have l:∀c,o.op≠.defer c:=by intro c hc;rw[ho]at hc;cases hc
 generalize hv:a.eval s=v at r1;cases r1;obtain⟨id,ver,q,hK⟩:=hK C st.sim.free;by_cases a0:m=0;subst a0;have y:news=[]:=Av (by rw[b.size];simp);have a1:ds=[]:=Av (by rw[h.1,y];rfl);subst y;subst a1;have d:=Wu (P:=P) (a:=a) (w:=w) ho g.ty hu (by rw[hv];exact fA (ty:=o.type) g.ty g.pos b (BO 0));obtain⟨t1,t2⟩:=st.sim.nilObject' q e;exact qx l d (f _ _ _ _ _ hK (mM C S w _ _ _ e) t1 t2);have d:=Wu (P:=P) (a:=a) (w:=w) ho g.ty hu (by rw[hv];exact cj (ty:=o.type) (olds:=[]) g.ty g.pos g.zero g.bytes b (by simp[Builtin.firstCells]) EA (by simpa using hb) g.bpos);have a2:m<=grownCap w m 0 e:=by have:=grownCap_ge w m 0 e;exact this
 have a3:grownCap w m 0 e<=maxLen:=grownCap_le_maxLen w m 0 e (by unfold maxLen;omega);simp only[A3]at d;have a4:(#[]++news.toArray++Builtin.zeroCells z.cells (grownCap w m 0 e-m):Array Value).size=grownCap w m 0 e*P.cellsOf e:=by simp only[Cz,B1,Ag,A3,size_zeroCells,g.zsize,b.size];rw[<-Nat.add_mul];congr 1;omega
 have k:=Wt (cs:=[]) (vs:=[]) (by simp[RelL]) h (Builtin.zeroCells z.cells (grownCap w m 0 e-m)).toList;simp only[AI]at k;have j:∀i:Nat,(#[]++news.toArray++Builtin.zeroCells z.cells (grownCap w m 0 e-m):Array Value)[i]?=(news++(Builtin.zeroCells z.cells (grownCap w m 0 e-m)).toList)[i]?:=by intro i;rw[<-Array.getElem?_toList];simp
 obtain⟨d1,d2⟩:=st.sim.drew;obtain⟨t1,t2⟩:=d1.object' q e (#[]++news.toArray++Builtin.zeroCells z.cells (grownCap w m 0 e-m)) ds EI (λi v hi hv=>k.2.1 i v hi (by rw[<-j];exact hv)) (λi p v hp hv=>(k.2.2 i p v hp (by rw[<-j];exact hv)).mono d2);exact qx l d (f _ _ _ _ _ hK (VM C S w _ _ _ _ _ _ _ _ rfl a2 (AF hm (by simp[xx])) a3 a4.symm) t1 (d2.trans t2))
theorem Sim.relabel(h:Sim C S w){ver:Nat}{cs':List PV}(hs:S o=.cells ver e cs)(hl:cs'.length=cs.length)
  (g:∀(i:Nat) (a:PV),cs'[i]?=some a->cs[i]?=some a\/∃p,cs[i]?=some p/\∀v,Rel C S w p v->Rel C S w a v) :
  Sim C (S.set o (.cells ver e cs')) w/\Step C S w C (S.set o (.cells ver e cs')) w:=by
 have j:C.at o ver (C.loc o)=C:=by have d:=h.clk o ver (by rw[hs];rfl);cases C;simp only[Ctx.at,Ctx.mk.injEq,true_and]at d ⊢;refine⟨?_,by omega⟩;funext i;split;rename_i e;rw[e];rfl
 have:=h.turn (w':=w) (ver':=ver) (cs':=cs') (l:=C.loc o) hs (Af _) (λ_=>rfl) ⟨⟨rfl,rfl,rfl,Af _,λ_ _ _=>rfl⟩,Af _⟩ (by obtain⟨h1,h2⟩|⟨b,k,c,g1,m,g3,g4,n,f⟩:=h.cells o ver e cs hs;exact .inl ⟨h1,Av (by rw[hl,h2];rfl)⟩;refine .inr ⟨b,k,c,g1,.inr (by rw[g1];rfl),m,g3,by omega,λi v hi hv=>n i v EA hv,λi p v r hv=>?_⟩;obtain q|⟨s,t,u⟩:=g i p r;exact f i p v q hv;exact u v (f i s v t hv));simp_all
def fF{c:Code}{ver m:Nat}(i e sz:Nat)(hs:S o=.cells ver m cs)(hi:cs[i]?=some (.sc (.slice none 0 0)))
  (h:∀C:Ctx,S C.next=.dead->∃id v,Fresh C S id v/\PW P r n N c Q F ((S.set id (.cells v e [])).set o (.cells ver m (cs.set i (.sl id v sz 0 0))))):PW P r n N c Q F S:=by
 intro C w a st;obtain⟨id,p,d,h⟩:=h C st.sim.free;obtain⟨k1,f⟩:=st.sim.nilObject' d e;have g:o≠id:=by intro e;have:=d.dead;rw[<-e,hs]at this;cases this
 obtain⟨q,k⟩:=k1.relabel (o:=o) (cs':=cs.set i (.sl id p sz 0 0)) (by rw[q10 _ _ _ _ g];exact hs) EB (by intro j t b;rw[BG]at b;split at b;rename_i l;subst l;split at b;cases b;refine .inr ⟨_,hi,λv hv=>?_⟩;cases hv;simp[mM];cases b;exact .inl b);refine wpIn_mono (h _ w a ⟨q,st.size,λi=>((st.fr i).mono f).mono k,r.keep k (r.keep f st.v)⟩) ?_;rintro e a' w' ⟨F2,S2,C2,h1,h2,h3,s⟩;exact⟨F2,S2,C2,h1,h2,h3,(f.trans k).trans s⟩
end
end Go.Proofs.YtdjbbndbalhekaaGreatDoor.Pv
