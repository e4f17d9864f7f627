/- Part of a proof, packed. -/
import Derived.Test.YtdjbbndbalhekaaGreatDoorCards
import Derived.Test.YtdjbbndbalhekaaGreatDoorTie
import Derived.SevenTiedAt
import Derived.Lay
import Derived.PinnedBridge
import Derived.WalkKit
import Derived.OrdersIn
import Derived.ControlIn
import Derived.Laws.StructEq
import Derived.RangeFuncCalls
import Derived.RangeFuncRecord
import Derived.RangeFuncSeq
import Derived.Lib.Hide
import Derived.Test.YtdjbbndbalhekaaGreatDoorRows
import Derived.ProofKit
import Derived.Shelf.Strings.Builder1
import Derived.Shelf.Strings.Builder2
import Derived.Shelf.Strings.OnBuilder
import Derived.Shelf.Small.Bits
import Derived.Shelf.Small.Wraps
import Derived.Shelf.Strings.BuilderF
import Derived.Shelf.Strings.BuilderK
import Derived.Shelf.Utf8.RuneCount
import Derived.Shelf.Strings.Builder2Cap
import Derived.Shelf.Strconv.Itoa0
import Derived.Shelf.Strings.Search1
import Derived.Shelf.Strings.Search2
import Derived.Shelf.Strings.Search3
import Derived.Shelf.Strings.Cut
import Derived.Shelf.Strings.Count
import Derived.Shelf.LaysM
import Derived.Shelf.Strings.Shaped
import Derived.Shelf.Sort.Plain
import Derived.Shelf.Strings.Split
import Derived.Shelf.Strings.SplitShaped
import Derived.Shelf.Unicode.Decode
import Derived.Shelf.Strings.RuneCount
import Derived.Shelf.Strings.Explode
import Derived.Shelf.Bits.Mul64
import Derived.Shelf.Unicode.DecodeSlow
import Derived.Shelf.Unicode.DecodeAny
import Derived.Shelf.Strings.BuilderCap
import Derived.Shelf.Slices.Equal
import Derived.Ground.Names2Prog
import Derived.Shelf.Slices.SearchI
import Derived.Shelf.Slices.In.SortNone
import Derived.Shelf.Slices.Empties
import Derived.Shelf.Slices.Empties2
import Derived.Ground.SlsfProg
import Derived.Shelf.SlSortCmp.Insertion
import Derived.Shelf.SlSortCmp.SiftDown1
import Derived.Shelf.SlSortCmp.HeapSort1
import Derived.Shelf.SlSortCmp.Insertion1
import Derived.Shelf.SlSortCmp.Median1
import Derived.Shelf.SlSortCmp.Pivot1
import Derived.Shelf.SlSortCmp.ReverseRange1
import Derived.Shelf.SlSortCmp.PartialInsertion1
import Derived.Shelf.SlSortCmp.PartitionEqual1
import Derived.Shelf.SlSortCmp.Partition1
import Derived.Shelf.SlSortCmp.Pdq1
import Derived.Shelf.SlSortCmp.Whole1
import Derived.Shelf.SlSortCmp.NoneTotal
import Derived.Test.YtdjbbndbalhekaaGreatDoorProg
import Derived.Sort.OwnSortedInts
import Derived.Laws.CopyRow
import Derived.Laws.IdiomCopy
import Derived.Laws.Externs
import Derived.Shelf.Spec.SlicesInsertGrow
import Derived.Shelf.Spec.SlicesGrow
import Derived.Lib.QuietBelow
import Derived.Lib.SliceRun
import Derived.Lib.SlicesDelete
import Derived.Deep.RegionLaw
import Derived.WalkSmall
import Derived.Laws.BytesArg
import Derived.Lib.Strings
import Derived.Lib.SplitLaws
import Derived.OpenShut
import Derived.Carry
open Go.Proofs.Tryz
set_option linter.defProp false
set_option maxRecDepth 100000
set_option maxHeartbeats 3200000
namespace Go.Proofs.YtdjbbndbalhekaaGreatDoor
def D9{p:Prop}(h:p:=by omega):p:=h
variable {p:Prop}
def EA(h:p:=by simp):p:=h
def EB(h:p:=by simp;rfl):p:=h
def EC(h:p:=by kernel_rfl):p:=h
def n':=trivial
def ED(h:p:=by simp;omega):p:=h
def EF(h:p:=by rfl):p:=h
def EG(h:p:=by decide):p:=h
def EH(h:p:=by grind):p:=h
def EI(h:p:=by simp_all):p:=h
open Go Go.Proofs
abbrev Aa:=@List.getD_eq_getElem?_getD
abbrev Ab:=@List.mem_of_getElem?
abbrev Ac:=@List.getElem?_eq_getElem
abbrev Ad:=@List.take_of_length_le
abbrev Ae:=@List.length_cons
abbrev Af:=@List.getElem?_eq_some_iff
abbrev Ag:=@Nat.le_refl
abbrev Ah:=@List.take_length
abbrev Ai:=@List.getElem?_map
abbrev Aj:=@List.length_nil
abbrev Ak:=@List.mem_map
abbrev Al:=@Option.map_eq_some_iff
abbrev Am:=@List.mem_cons
abbrev An:=@List.getElem?_eq_none
abbrev Ao:=@List.getElem?_append_right
abbrev Ap:=@List.flatMap_append
abbrev Aq:=@Result.andThen_ok
abbrev Ar:=@Bool.and_eq_true
abbrev As:=@List.eq_nil_of_length_eq_zero
abbrev Au:=@List.getElem?_append_left
abbrev Av:=@List.all_eq_true
abbrev Aw:=@List.map_cons
abbrev Ax:=@List.take_add_one
abbrev Ay:=@List.append_nil
abbrev Az:=@Int.eq_ofNat_of_zero_le
abbrev AA:=@List.length_take
abbrev AB:=@List.flatMap_cons
abbrev AC:=@List.mem_append
abbrev AD:=@IntKind.wrap_i64
abbrev AE:=@List.set_eq_take_append_cons_drop
abbrev AF:=@Nat.le_trans
abbrev AG:=@List.drop_eq_getElem_cons
abbrev AH:=@List.getElem?_toArray
abbrev AI:=@List.mem_range
abbrev AJ:=@Nat.add_sub_cancel_left
abbrev AK:=@List.nil_append
abbrev AL:=@List.getElem?_drop
abbrev AM:=@List.set_cons_succ
abbrev AN:=@Int.toNat_natCast
abbrev AO:=@List.range_succ
abbrev AP:=@List.getElem?_take_of_lt
abbrev AQ:=@List.map_congr_left
abbrev AR:=@List.set_cons_zero
abbrev AS:=@List.drop_of_length_le
abbrev AT:=@List.take_succ_eq_append_getElem
abbrev AU:=@Option.map_some
abbrev AV:=@Nat.zero_add
abbrev AW:=@Bool.false_eq_true
abbrev AX:=@List.mem_singleton
abbrev AY:=@List.getElem_mem
abbrev AZ:=@List.length_singleton
abbrev A3:=@List.ext_getElem?
abbrev A4:=@List.getElem?_set_self
abbrev A5:=@Array.getElem?_eq_getElem
abbrev A6:=@List.getElem?_set_ne
abbrev A7:=@List.length_drop
abbrev A8:=@List.ext_getElem
abbrev A9:=@List.not_mem_nil
abbrev Ba:=@List.foldl_cons
abbrev Bb:=@Array.getD_eq_getD_getElem?
abbrev Bc:=@Nat.lt_or_ge
abbrev Bd:=@Array.getElem?_eq_some_iff
abbrev Be:=@Int.tmod_eq_emod_of_nonneg
abbrev Bf:=@List.map_nil
abbrev Bg:=@List.getElem?_range
abbrev Bh:=@List.drop_length
abbrev Bi:=@List.getElem?_cons_zero
abbrev Bj:=@List.getElem?_cons_succ
abbrev Bk:=@Nat.sub_self
abbrev Bl:=@List.all_eq_false
abbrev Bm:=@Nat.min_eq_left
abbrev Bn:=@List.mem_of_mem_take
abbrev Bo:=@List.mem_or_eq_of_mem_set
abbrev Bp:=@List.mem_iff_getElem?
abbrev Bq:=@Nat.le_succ_of_le
abbrev Br:=@Nat.lt_of_lt_of_le
abbrev Bs:=@List.pairwise_cons
abbrev Bt:=@List.length_pos_iff
abbrev Bu:=@List.mem_filter
abbrev Bv:=@List.length_set
abbrev Bw:=@List.set_append_right
abbrev Bx:=@Nat.zero_le
abbrev By:=@List.mem_of_mem_drop
abbrev Bz:=@List.mem_flatMap
abbrev BA:=@List.mem_flatten
abbrev BB:=@List.flatten_cons
abbrev BC:=@Array.getElem?_append_left
abbrev BD:=@World.putObj_heap_other
abbrev BE:=@List.sum_cons
abbrev BF:=@List.take_append_of_le_length
abbrev BG:=@List.getElem?_set
abbrev BH:=@List.pairwise_iff_getElem
abbrev BI:=@List.foldl_append
abbrev BJ:=@Nat.add_zero
abbrev BK:=@Nat.mul_one
abbrev BL:=@Array.getElem?_modify
abbrev BM:=@List.replicate_succ
abbrev BN:=@List.all_append
abbrev BO:=@List.length_filter_le
abbrev BP:=@Bool.true_and
abbrev BQ:=@Int.tdiv_eq_ediv_of_nonneg
abbrev BR:=@List.mem_cons_of_mem
abbrev BS:=@Nat.pow_le_pow_right
abbrev BT:=@List.getElem?_take
abbrev BU:=@List.drop_eq_nil_of_le
abbrev BV:=@Array.toList_inj
abbrev BW:=@List.drop_append_of_le_length
abbrev BX:=@List.any_eq_true
abbrev BY:=@List.size_toArray
abbrev BZ:=@Option.isSome_iff_exists
abbrev B0:=@Bool.false_and
abbrev B1:=@Array.getElem?_append_right
abbrev B3:=@List.map_map
abbrev B4:=@List.length_eraseIdx_of_lt
abbrev B5:=@Array.getElem?_extract
abbrev B6:=@World.putObj_heap_same
abbrev B7:=@List.filterMap_append
abbrev B8:=@List.length_replicate
abbrev B9:=@Array.getElem?_setIfInBounds_self_of_lt
abbrev Ca:=@Nat.eq_zero_or_pos
abbrev Cb:=@Nat.pos_of_ne_zero
abbrev Cc:=@Nat.add_sub_cancel
abbrev Cd:=@List.filter_append
abbrev Cf:=@Array.mem_toList_iff
abbrev Cg:=@List.getElem?_of_mem
abbrev Ch:=@Nat.mul_le_mul_left
abbrev Ci:=@List.mergeSort_perm
abbrev Cj:=@List.getElem_map
abbrev Ck:=@List.filter_cons
abbrev Cl:=@List.all_cons
abbrev Cm:=@List.mem_filterMap
abbrev Cn:=@List.getElem_range
abbrev Co:=@List.mem_cons_self
abbrev Cp:=@Nat.mul_le_mul_right
abbrev Cq:=@Bool.not_eq_true'
abbrev Cr:=@Array.size_append
abbrev Cs:=@List.set_eq_of_length_le
abbrev Ct:=@List.length_eq_zero_iff
abbrev Cu:=@List.drop_append
abbrev Cv:=@List.flatMap_nil
abbrev Cw:=@Nat.testBit_lt_two_pow
abbrev Cx:=@Nat.le_of_eq
abbrev Cy:=@List.singleton_append
abbrev Cz:=@List.contains_iff_mem
abbrev CA:=@List.any_eq_false
abbrev CB:=@List.reverse_cons
abbrev CC:=@Nat.pow_lt_pow_right
abbrev CD:=@List.drop_eq_nil_iff
abbrev CE:=@Option.map_map
abbrev CF:=@Int.mul_nonneg
abbrev CG:=@Int.mul_le_mul
abbrev CH:=@Bool.and_false
abbrev CI:=@Option.bind_some
abbrev CJ:=@List.getElem_set
abbrev CK:=@List.take_succ_cons
abbrev CL:=@Nat.testBit_two_pow
abbrev CM:=@Int.toNat_of_nonneg
abbrev CN:=@List.length_filterMap_le
abbrev CO:=@Bool.and_true
abbrev CP:=@Nat.le_mul_of_pos_right
abbrev CR:=@List.pairwise_mergeSort
abbrev CU:=@List.nodup_cons
abbrev CV:=@Option.isSome_none
abbrev CW:=@Nat.lt_irrefl
abbrev CX:=@Nat.testBit_eq_decide_div_mod_eq
abbrev CY:=@List.range_succ_eq_map
abbrev CZ:=@List.filter_eq_nil_iff
abbrev C4:=@Nat.le_succ
abbrev C5:=@List.pairwise_map
abbrev C6:=@List.eraseIdx_eq_take_drop_succ
abbrev C7:=@Array.getElem?_setIfInBounds_ne
abbrev C8:=@List.take_zero
abbrev C9:=@Nat.zero_mul
abbrev Da:=@List.perm_append_comm
abbrev Db:=@Bool.and_eq_false_iff
abbrev Dc:=@Option.ite_none_right_eq_some
abbrev Dd:=@Nat.mod_eq_of_lt
abbrev De:=@Nat.le_add_right
abbrev Df:=@List.set_append_left
abbrev Dg:=@Nat.eq_of_testBit_eq
abbrev Dh:=@List.replicate_succ'
abbrev Di:=@Array.getElem?_setIfInBounds
abbrev Dj:=@List.dropLast_concat_getLast
abbrev Dk:=@Int.not_lt
abbrev Dl:=@Bool.or_eq_true
abbrev Dm:=@Bool.eq_iff_iff
abbrev Dn:=@List.reverse_append
abbrev Do:=@Int.le_refl
abbrev Dp:=@List.any_append
abbrev Dq:=@Option.map_none
abbrev Dr:=@List.map_id
abbrev Ds:=@List.getD_cons_zero
abbrev Dt:=@List.sublist_flatten_of_mem
abbrev Du:=@List.perm_ext_iff_of_nodup
abbrev Dv:=@Int.add_zero
abbrev Dw:=@Bool.not_false
abbrev Dx:=@List.range_add
abbrev Dy:=@List.take_take
abbrev Dz:=@Nat.testBit_or
abbrev DA:=@List.drop_zero
abbrev DB:=@Option.eq_none_or_eq_some
abbrev DC:=@Array.range_zero'
abbrev DD:=@Array.getElem_mem
abbrev DE:=@List.length_erase_of_mem
abbrev DF:=@Array.getElem?_replicate
abbrev DG:=@List.nodup_append
abbrev DH:=@List.find?_append
abbrev DI:=@List.length_range
abbrev DJ:=@List.take_nil
abbrev DK:=@Bool.false_or
abbrev DL:=@Int.mul_add
abbrev DM:=@List.map_toArray
abbrev DN:=@List.suffix_refl
abbrev DO:=@List.flatten_nil
abbrev DP:=@List.reverse_nil
abbrev DQ:=@Nat.lt_of_not_le
abbrev DR:=@List.getElem?_eraseIdx
abbrev DT:=@List.getElem_replicate
abbrev DU:=@Array.getElem?_eq_none
abbrev DV:=@List.length_pos_of_mem
abbrev DW:=@List.all_nil
abbrev DX:=@Array.map_empty
abbrev DY:=@Nat.pow_succ
abbrev DZ:=@List.take_left'
abbrev D0:=@Nat.le_of_lt
abbrev D1:=@List.sum_append
abbrev D2:=@Int.ne_of_lt
abbrev D3:=@World.alloc_eq
abbrev D4:=@Nat.min_def
abbrev D5:=@Nat.one_mul
abbrev D6:=@Nat.sub_zero
abbrev D7:=@Nat.mul_comm
abbrev D8:=@Int.pow_succ
end Go.Proofs.YtdjbbndbalhekaaGreatDoor
namespace Go.Proofs
open Go.Shelf
theorem b9{f:FuncId}{F:Func}(h:Tryz.prog.funcs[f]?=some {F with name:=((Tryz.prog.funcs[f]?).map Func.name).getD ""}:=by kernel_rfl)(d:(((Tryz.prog.funcs[f]?).map Func.name).getD "" == "runtime.NumGoroutine")=false:=by kernel_rfl):Bears Tryz.prog f F:=⟨_,d,h⟩
def Tryz.lays156_ren:Go.Shelf.Ren:=⟨fun | 156=>64 | 165=>105 | 166=>39 | 169=>42 | 240=>65 | 241=>149 | 276=>106 | 277=>193 | n=>n,fun | 31=>52 | 9=>9 | 3=>3 | 4=>4 | 0=>0 | 20=>20 | 72=>79 | 76=>82 | 70=>76 | 37=>77 | 75=>81 | 127=>126 | 164=>164 | 5=>5 | 80=>86 | n=>n,fun | n=>n⟩
theorem Tryz.lays156:Go.Proofs.Lays.n156 prog Tryz.lays156_ren:=by constructor<;>first|kernel_rfl|(intro _;kernel_rfl)|exact b9
theorem Tryz.Builder_Extra_156:Builder.Extra prog Tryz.lays156_ren:={
 sizeBuilder:=by kernel_rfl
 liesBuilder:=by kernel_rfl
 t5:=Tryz.underlying5
 a5:=Tryz.isAgg5
 z5:=Tryz.sizeOf5
 v5:=Tryz.zeroValue5
 infoByte:=by kernel_rfl
 cellsByte:=by kernel_rfl
 sizeByte:=by kernel_rfl
 neB5:=by decide }
def Tryz.lays219_ren:Go.Shelf.Ren:=⟨fun | 219=>194 | 217=>234 | 225=>235 | 224=>236 | 267=>237 | 266=>265 | 314=>266 | n=>n,fun | 9=>9 | 3=>3 | 4=>4 | 5=>5 | 46=>248 | 146=>303 | 51=>300 | n=>n,fun | 1=>0 | n=>n⟩
theorem Tryz.lays219:Go.Proofs.Lays.n219 prog Tryz.lays219_ren:=by constructor<;>first|kernel_rfl|(intro _;kernel_rfl)|exact b9
open Go.RowKit Go.Lib in
theorem Tryz.stringslite_Index_one(s:ByteArray)(c:UInt8)(w:World):
  Calls prog 194 #[.string s,.string ⟨#[c]⟩] w λe w'=>e=.returned (.int .i64 (Lib.indexByte s.data.toList c))/\w'=w:=Any.stringslite_Index_one Tryz.lays219 s c w
def Tryz.lays143_ren:Go.Shelf.Ren:=⟨fun | 143=>197 | 219=>194 | 217=>234 | 225=>235 | 224=>236 | 267=>237 | 266=>265 | 314=>266 | n=>n,fun | 9=>9 | 3=>3 | 4=>4 | 5=>5 | 46=>248 | 146=>303 | 51=>300 | n=>n,fun | 1=>0 | n=>n⟩
theorem Tryz.lays143:Go.Proofs.Lays.n143 prog Tryz.lays143_ren:=by constructor<;>first|kernel_rfl|(intro _;kernel_rfl)|exact b9
theorem Tryz.strings_Index_one(s:ByteArray)(c:UInt8)(w:World):
  Calls prog 197 #[.string s,.string ⟨#[c]⟩] w λe w'=>e=.returned (.int .i64 (Lib.indexByte s.data.toList c))/\w'=w:=Any.strings_Index_one Tryz.lays143 s c w
def Tryz.lays138_ren:Go.Shelf.Ren:=⟨fun | 138=>196 | 195=>238 | 218=>240 | 143=>197 | 219=>194 | 217=>234 | 225=>235 | 224=>236 | 267=>237 | 266=>265 | 314=>266 | n=>n,fun | 9=>9 | 3=>3 | 4=>4 | 5=>5 | 0=>0 | 46=>248 | 146=>303 | 51=>300 | n=>n,fun | 1=>0 | n=>n⟩
theorem Tryz.lays138:Go.Proofs.Lays.n138 prog Tryz.lays138_ren:=by constructor<;>first|kernel_rfl|(intro _;kernel_rfl)|exact b9
theorem Tryz.strings_Count_one(s:ByteArray)(c:UInt8)(w:World):
  Calls prog 196 #[.string s,.string ⟨#[c]⟩] w λe w'=>e=.returned (.int .i64 (Lib.countByte s.data.toList c))/\w'=w:=Any.strings_Count_one Tryz.lays138 s c w
def Tryz.lays189_ren:Go.Shelf.Ren:=⟨fun | 189=>157 | 125=>213 | 257=>212 | 128=>253 | 129=>254 | 294=>244 | 295=>245 | 296=>246 | 297=>247 | 298=>248 | 299=>249 | 216=>250 | 300=>251 | 301=>252 | 328=>270 | 329=>271 | 330=>272 | 331=>273 | 332=>274 | 215=>275 | 343=>295 | n=>n,fun | 28=>26 | 3=>3 | 46=>248 | 0=>0 | 51=>300 | 53=>65 | 4=>4 | 183=>293 | 182=>292 | 131=>102 | 5=>5 | 9=>9 | 218=>316 | 222=>132 | 228=>348 | 229=>194 | n=>n,fun | n=>n⟩
theorem Tryz.lays189:Go.Proofs.Lays.n189 prog Tryz.lays189_ren:=by constructor<;>first|kernel_rfl|(intro _;kernel_rfl)|exact b9
open Go.Sort
theorem Tryz.slices_Sort_int(a off cap:Nat)(zs:List Int)(w:World)(d:Holds (Value.int .i64) w a off zs.toArray)(b:a<w.heap.size)(c:zs.length<4611686018427387904):
  Calls prog 157 #[.slice (some ⟨a,off,none⟩) zs.length cap] w λe w' =>
   e=.returned (.tuple #[])/\∃n os,w'=grow (putRow (Value.int .i64) (Sort.ahead w n) a off (zs.mergeSort λx y=>decide (x<=y)).toArray) os:=Any.slices_Sort_int Tryz.lays189 a off cap zs w d b c
def Tryz.lays221_ren:Go.Shelf.Ren:=⟨fun | 221=>151 | 268=>195 | 138=>196 | 143=>197 | 195=>238 | 197=>239 | 218=>240 | 219=>194 | 260=>267 | 217=>234 | 225=>235 | 224=>236 | 267=>237 | 266=>265 | 314=>266 | n=>n,fun | 9=>9 | 3=>3 | 31=>52 | 4=>4 | 0=>0 | 105=>289 | 21=>21 | 5=>5 | 46=>248 | 119=>344 | 139=>347 | 138=>346 | 146=>303 | 51=>300 | n=>n,fun | 1=>0 | 3=>1 | 4=>2 | n=>n⟩
theorem Tryz.lays221:Go.Proofs.Lays.n221 prog Tryz.lays221_ren:=by constructor<;>first|kernel_rfl|(intro _;kernel_rfl)|exact b9
def Tryz.lays212_ren:Go.Shelf.Ren:=⟨fun | 212=>223 | 263=>256 | 264=>257 | n=>n,fun | 46=>248 | 51=>300 | 146=>303 | 53=>65 | 148=>305 | n=>n,fun | n=>n⟩
theorem Tryz.lays212:Go.Proofs.Lays.n212 prog Tryz.lays212_ren:=by constructor<;>first|kernel_rfl|(intro _;kernel_rfl)|exact b9
theorem Tryz.bits_Mul(x y:Nat)(hx:x<18446744073709551616)(a:y<18446744073709551616)(w:World):
  Calls prog 223 #[.int .u64 x,.int .u64 y] w λe w'=>e=.returned (.tuple #[.int .u64 ((x*y / 18446744073709551616:Nat):Int),.int .u64 ((x*y % 18446744073709551616:Nat):Int)])/\w'=w:=Any.bits_Mul Tryz.lays212 x y hx a w
def Tryz.laysNm225_ren:Go.Shelf.Ren:=⟨fun | 25=>344 | 31=>250 | 32=>362 | 37=>275 | n=>n,fun | 22=>26 | 3=>3 | 4=>4 | 40=>248 | 0=>0 | n=>n,fun | n=>n⟩
theorem Tryz.laysNm225:Go.Proofs.Lays2.n25 prog Tryz.laysNm225_ren:=by constructor<;>first|kernel_rfl|(intro _;kernel_rfl)|exact b9
theorem Tryz.slices_BinarySearch_int(b off n c:Nat)(zs:List Int)(x:Int)(w:World)(d:n<=zs.length)(a:n<4611686018427387904)(hc:∀j,j<zs.length->w.cell? ⟨b,off+j,none⟩=some (.int .i64 (zs.getD j 0)))(hs:(zs.take n).Pairwise (·<=·)):
  Calls prog 344 #[.slice (some ⟨b,off,none⟩) n c,.int .i64 x] w λe w'=>e=.returned (.tuple #[.int .i64 ((zs.take n).countP (·<x):Nat),.bool ((zs.take n).contains x)])/\∃q,w'=w.drewN q:=Any.slices_BinarySearch_int Tryz.laysNm225 b off n c zs x w d a hc hs
theorem Tryz.slices_Sort_int_none(p:Option Addr)(cap:Nat)(w:World):
  Calls prog 157 #[.slice p 0 cap] w λe w'=>e=.returned (.tuple #[])/\w'=w:=Any.slices_Sort_int_none Tryz.lays189 p cap w
theorem Tryz.slices_BinarySearch_int_empty(a:Option Addr)(c:Nat)(x:Int)(w:World):
  Calls prog 344 #[.slice a 0 c,.int .i64 x] w λe w'=>e=.returned (.tuple #[.int .i64 0,.bool false])/\w'=w:=Any.slices_BinarySearch_int_empty Tryz.laysNm225 a c x w
def Tryz.laysSlF6_f364_ren:Go.Shelf.Ren:=⟨fun | 6=>364 | 15=>213 | 14=>370 | 28=>253 | 29=>254 | 20=>372 | 21=>373 | 22=>374 | 23=>375 | 24=>376 | 25=>377 | 26=>378 | 27=>379 | 46=>380 | 47=>271 | 48=>272 | 49=>381 | 50=>382 | 57=>383 | n=>n,fun | 22=>26 | 24=>3 | 25=>45 | 3=>3 | 39=>248 | 0=>0 | 53=>300 | 55=>65 | 4=>4 | 46=>293 | 45=>292 | 50=>102 | 5=>5 | 9=>9 | 66=>316 | 70=>132 | 76=>348 | 77=>194 | n=>n,fun | n=>n⟩
theorem Tryz.laysSlF6_f364:Go.Proofs.SlLaysF.n6 prog Tryz.laysSlF6_f364_ren:=by constructor<;>first|kernel_rfl|(intro _;kernel_rfl)|exact b9
end Go.Proofs
namespace Go.Proofs.YtdjbbndbalhekaaGreatDoor.Pv
open Go Go.Proofs Go.Shelf Go.RowKit Go.Lib
def bv{P:Program}(w:World)(r s ty b:TypeId)(g o c e:Nat)(a:Addr)(d f k n:Nat)(cur:Array Value)(t:TypeId)(cs:List Value)
  (u:P.underlying r=some (.slice b)) (hs:(P.info? b).map (·.size)=some k) (hn:n=Nat.min d c)
  (x:w.heap[g]?=some (.cells cur t (0,0))) (hl:cs.length=n*k)
  (h:∀j v,cs[j]?=some v->w.cell? (a.add j)=some v) (l:o+cs.length<=cur.size) (h1:∀v∈cs,v.oneCell'=true) :
  (Builtin.copy_ #[r,s] ty #[.slice (some ⟨g,o,none⟩) c e,.slice (some a) d f]).run P w =
   .ok (goInt n) (w.setRow g (cur.toList.take o++cs++cur.toList.drop (o+cs.length)).toArray):=by
 have m:=run_loadCells_list (P:=P) w a cs h;have p:=run_storeCells_at P g o t cs 0 cur w x (by simpa using l) h1;rw[hl]at m;cases q:P.info? b with
 |none=>simp[q]at hs
 |some i =>
 have hi:i.size=k:=by simpa[q] using hs
 simp[Builtin.copy_,run_underlying u,Builtin.lenOf,Builtin.firstCells,sizeOf,typeInfo,q,hi,<-hn,m,p]
def Gl{P:Program}(w:World)(d s e:TypeId)(t:P.underlying d=some (.slice e))(size:Nat)(n:∀w,(Go.sizeOf e).run P w=.ok size w)
  (a b:Addr) (o u p v:Nat) (c:a.block≠b.block) (tA x:TypeId) (q r:Nat)
  (f:w.shape? a.block=some (tA,q+1)) (g:w.shape? b.block=some (x,r+1))
  (h:w.frozen? b=false) (i:w.frozen? { block:=b.block,off:=r+1 }=false) :
  (Extern.SlicesOverlaps.overlaps #[d,d] #[s] #[.slice (some a) o u,.slice (some b) p v]).run P w=.ok (.bool false) w:=by
 have j:(a.block != b.block)=true:=by simpa using c
 have k:(a.block==b.block)=false:=by simpa using c
 conv=>lhs;arg 2;whnf
 rw[Sem.run];simp only[Sem.bind,List.getElem_toArray,List.getElem_cons_zero,t];change Sem.run P (Bind.bind (pure (TypeDesc.slice e):Sem TypeDesc) _) w=_;by_cases h0:o=0\/p=0\/size=0;simp[n,h0];cases l:w.frozen? a<;>cases m:w.frozen? { block:=a.block,off:=q+1 } <;>
  simp[n,h0,j,k,frozen,noView,viewAt,mayBeOne,stringish,shape,Sem.run,f,g,l,m,h,i]
def Gm(b n c i vb vo vc:Nat)(cs vs:List Value)(w:World)(i0:TypeInfo)(z:Value)(m:prog.info? 101=some i0)(a2:i0.zero=some z)(o:i0.size=2)(p:i0.bytes=16)(a3:z.cells.size=2)
  (hi:i<n) (d8:n<=c) (q:c<n+1) (hn:n<=1048576) (a4:cs.length=n*2) (a5:vs.length=2)
  (f:∀j v,cs[j]?=some v->w.cell? ⟨b,j,none⟩=some v) (r:∀j v,vs[j]?=some v->w.cell? ⟨vb,vo+j,none⟩=some v) (a6:∀v∈cs,v.oneCell'=true) (a7:∀v∈vs,v.oneCell'=true)
  (G:Nat) (hG:G=grownCap w (n+1) c 101) (ROW:Array Value) (a:ROW=(cs.take (i*2)).toArray++Builtin.zeroCells z.cells (n+1-i)++Builtin.zeroCells z.cells (G-(n+1))) (R1 R2:Array Value)
  (s:R1=(ROW.toList.take (i*2)++vs++ROW.toList.drop (i*2+2)).toArray) (a8:R2=(R1.toList.take ((i+1)*2)++cs.drop (i*2)++R1.toList.drop ((i+1)*2+(cs.drop (i*2)).length)).toArray) :
  Calls prog 329 #[.slice (some ⟨b,0,none⟩) n c,.int .i64 i,.slice (some ⟨vb,vo,none⟩) 1 vc] w λe w' =>
   e=.returned (.slice (some ⟨w.heap.size,0,none⟩) (n+1) G)/\w'=((w.drew.alloc (.cells ROW 101)).setRow w.heap.size R1).drew.setRow w.heap.size R2:=by
 have d9:¬((i:Int)=(n:Int)):=D9;have e0:(c:Int)<(n:Int)+1:=D9;have t:(prog.info? 101).map (·.size)=some 2:=by rw[m];simp[o]
 have a9:(n:Int)+1-(i:Int)=((n+1-i:Nat):Int):=D9;have u:i+(n+1-i)=n+1:=D9;have hold:(Builtin.firstCells i0.size i (.slice (some ⟨b,0,none⟩) i c)).run prog w.drew=.ok (cs.take (i*2)).toArray w.drew:=by rw[o];exact run_firstCells_some w.drew 2 i ⟨b,0,none⟩ i c (cs.take (i*2)) (by rw[AA];omega) (λj v k=>by rw[BT]at k;split at k;have:=f j v k;rw[Addr.add_lit,AV];exact this;cases k)
 have b7:∀ty,(Builtin.append_ #[97,3] ty #[.slice (some ⟨b,0,none⟩) i c,.int .i64 ((n:Int)+1-(i:Int))]).run prog w =
   .ok (.slice (some ⟨w.heap.size,0,none⟩) (n+1) G) (w.drew.alloc (.cells ROW 101)):=λty=>by
  have h:=Lib.run_append_grow_zeros w 97 3 ty 101 i0 _ .i64 .i64 underlying97 underlying3 m a2 (some ⟨b,0,none⟩) i c (cs.take (i*2)) hold (n+1-i) D9 D9 D9 D9 (by rw[p];omega) (by rw[p,u];exact growslice_fits q D9);rw[u]at h;rw[a9,a,hG];exact h
 have d4:ROW.size=G*2:=by rw[a];have:=grownCap_ge w (n+1) c 101;simp[Builtin.zeroCells,a3];omega
 have e1:n+1<=G:=by rw[hG];exact grownCap_ge w _ _ _
 have d6:G<=9223372036854775807:=by have:=grownCap_le_maxLen w (n+1) c 101 (by unfold maxLen;omega);rw[<-hG]at this;unfold maxLen at this;omega
 have b8:b<w.heap.size:=block_lt_of_cell (f 0 _ (Ac D9));have c6:vb<w.heap.size:=block_lt_of_cell (r 0 _ (Ac D9));obtain⟨W1,d⟩:∃W1,W1=w.drew.alloc (.cells ROW 101):=⟨_,rfl⟩;have c7:W1.heap[w.heap.size]?=some (.cells ROW 101 (0,0)):=by rw[d];show (w.heap.push _)[w.heap.size]?=_;exact Array.getElem?_push_size
 have y:∀b',b'<w.heap.size->∀j v,w.cell? ⟨b',j,none⟩=some v->W1.cell? ⟨b',j,none⟩=some v:=λb' d5 j v h=>by rw[d,World.cell?_alloc_past (w:=w.drew) _ b' j d5];exact h
 have c8:∀W:World,W.heap=W1.heap->∀x,W.cell? x=W1.cell? x:=λW g x=>by unfold World.cell?;rw[g]
 have hA:∀(W:World),W.heap=W1.heap->∀ty dc,(Builtin.copy_ #[97,97] ty #[.slice (some ⟨w.heap.size,i*2,none⟩) (n+1-i) dc,.slice (some ⟨vb,vo,none⟩) 1 vc]).run prog W=.ok (goInt 1) (W.setRow w.heap.size R1):=λW g ty dc=>by
  have:=bv (P:=prog) W 97 97 ty 101 w.heap.size (i*2) (n+1-i) dc ⟨vb,vo,none⟩ 1 vc 2 1 ROW 101 vs underlying97 t (by simp only[D4];split<;>omega) (by rw[g];exact c7) D9
   (λj v k=>by rw[Addr.add_lit,c8 W g];exact y vb c6 _ v (r j v k)) D9 a7
  rw[a5,<-s]at this;exact this
 obtain⟨W2,a0⟩:∃W2,W2=W1.setRow w.heap.size R1:=⟨_,rfl⟩;have d0:W2.heap[w.heap.size]?=some (.cells R1 101 (0,0)):=by rw[a0];exact setRow_heap _ _ _ _ _ _ c7
 have d1:R1.size=G*2:=by rw[s];simp;omega
 have l:∀j v,cs[j]?=some v->W2.cell? ⟨b,j,none⟩=some v:=λj v h=>by
  have h1:=y b b8 j v (f j v h);rw[a0];have h2:(W1.setRow w.heap.size R1).heap[b]?=W1.heap[b]?:=by unfold World.setRow;simp only[BL];rw[if_neg D9]
  unfold World.cell? at h1 ⊢;rw[h2];exact h1
 have a1:∀W:World,W.heap=W2.heap->∀x,W.cell? x=W2.cell? x:=λW g x=>by unfold World.cell?;rw[g]
 have d2:(cs.drop (i*2)).length=(n-i)*2:=by rw[A7,a4];omega
 have hB:∀(W:World),W.heap=W2.heap->∀ty dc sc,(Builtin.copy_ #[97,97] ty #[.slice (some ⟨w.heap.size,(i+1)*2,none⟩) (n+1-(i+1)) dc,.slice (some ⟨b,i*2,none⟩) (n-i) sc]).run prog W=.ok (goInt (n-i:Nat)) (W.setRow w.heap.size R2):=λW g ty dc sc=>by
  have:=bv (P:=prog) W 97 97 ty 101 w.heap.size ((i+1)*2) (n+1-(i+1)) dc ⟨b,i*2,none⟩ (n-i) sc 2 (n-i) R1 101 (cs.drop (i*2)) underlying97 t (by simp only[D4];split<;>omega) (by rw[g];exact d0) d2
   (λj v k=>by rw[Addr.add_lit,a1 W g];exact l _ v (by rwa[AL]at k)) D9 (λv hv=>a6 v (By hv))
  rw[<-a8]at this;exact this
 have d3:W1.heap=(w.drew.alloc (.cells ROW 101)).heap:=by rw[d]
 clear a s a8 hold f r y l a2 a3 d3 a9 u hG a4 a5 t d4 d1 d2 a6 a7 o p m b8 c6;have e2:¬(c=i):=D9;have e3:¬(G=i):=D9;have d7:¬(G=i+1):=D9;have e4:IntKind.i64.wrap ((i:Int)+1)=(i:Int)+1:=by rw[AD];omega
 have e5:(0:Int)<=(i:Int)+1:=D9;have e6:i<=n:=D9;have e7:((i:Int)+1).toNat=i+1:=D9;have e8:(i:Int)<=(n:Int):=D9;rw[<-d]at b7;have mixed:prog.follows .mixedOrders=true:=EC
 go_enter func329,ntmps329
 go_wp2_with (first
  |(at_builtin;refine Lib.wpList_append_run _ rfl _ _ _ _ rfl _ _ rfl rfl _ _ (b7 _) ?_)
  |(at_builtin;refine wpList_copy_runI _ rfl _ _ 97 97 rfl _ _ rfl rfl (hA _ rfl _ _) ?_))
 go_region_law_o (refine step_copy_runI rfl _ _ 97 97 rfl (.slice (some ⟨w.heap.size,(i+1)*2,none⟩) (n+1-(i+1)) (G-(i+1))) (.slice (some ⟨b,i*2,none⟩) (n-i) (c-i)) (by simp[Act.eval,Act.put]) (by simp[Act.eval,Act.put]) (hB _ (by rw[a0,d];rfl) 3 (G-(i+1)) (c-i)) ?_)
 go_wp2
 go_ret
 exact⟨rfl,rfl⟩
def Gn(b n c i d g r:Nat)(cs vs:List Value)(w:World)(k:(prog.info? 101).map (·.size)=some 2)(cur:Array Value)(a:w.heap[b]?=some (.cells cur 101 (0,0)))(s:cur.size=c*2)
  (hi:i<n) (b8:n+1<=c) (c7:c<=9223372036854775807) (hn:n<=1048576) (t:cs.length=n*2) (u:vs.length=2) (y:d≠b)
  (z:∀j v,cs[j]?=some v->w.cell? ⟨b,j,none⟩=some v) (a0:∀j v,vs[j]?=some v->w.cell? ⟨d,g+j,none⟩=some v) (a1:∀v∈cs,v.oneCell'=true) (a2:∀v∈vs,v.oneCell'=true)
  (tA:TypeId) (kA:Nat) (a3:w.shape? d=some (tA,kA+1)) (R1 R2:Array Value)
  (l:R1=(cur.toList.take ((i+1)*2)++cs.drop (i*2)++cur.toList.drop ((i+1)*2+(cs.drop (i*2)).length)).toArray) (a4:R2=(R1.toList.take (i*2)++vs++R1.toList.drop (i*2+2)).toArray) :
  Calls prog 329 #[.slice (some ⟨b,0,none⟩) n c,.int .i64 i,.slice (some ⟨d,g,none⟩) 1 r] w λe w' =>
   e=.returned (.slice (some ⟨b,0,none⟩) (n+1) c)/\w'=(w.drew.setRow b R1).setRow b R2:=by
 have d1:¬((i:Int)=(n:Int)):=D9;have d2:¬((c:Int)<(n:Int)+1):=D9;have a5:(cs.drop (i*2)).length=(n-i)*2:=by rw[A7,t];omega
 have a6:w.shape? b=some (101,(c*2-1)+1):=by unfold World.shape?;rw[a];simp[s];omega
 have m:∀j,w.frozen? ⟨b,j,none⟩=false:=λj=>by simp[World.frozen?,a]
 have c6:∀lb cb,(callFunc 346 #[.slice (some ⟨d,g,none⟩) 1 r,.slice (some ⟨b,(i+1)*2,none⟩) lb cb]).run prog w=.ok (.value (.bool false)) w:=λlb cb=>by
  rw[run_callFunc_extern func346 EC EC EC (e:=Extern.SlicesOverlaps.overlaps #[97,97] #[4]) EC,
   Gl w 97 4 101 underlying97 2 sizeOf101 ⟨d,g,none⟩ ⟨b,(i+1)*2,none⟩ 1 r lb cb y tA 101 kA (c*2-1) a3 a6 (m _) (m _)]
  rfl
 have a7:∀W:World,W.heap=w.heap->∀x,W.cell? x=w.cell? x:=λW f x=>by unfold World.cell?;rw[f]
 have hA:∀(W:World),W.heap=w.heap->∀ty o sc,(Builtin.copy_ #[97,97] ty #[.slice (some ⟨b,(i+1)*2,none⟩) (n+1-(i+1)) o,.slice (some ⟨b,i*2,none⟩) (n+1-i) sc]).run prog W=.ok (goInt (n-i:Nat)) (W.setRow b R1):=λW f ty o sc=>by
  have:=bv (P:=prog) W 97 97 ty 101 b ((i+1)*2) (n+1-(i+1)) o ⟨b,i*2,none⟩ (n+1-i) sc 2 (n-i) cur 101 (cs.drop (i*2)) underlying97 k (by simp only[D4];split<;>omega) (by rw[f];exact a) a5
   (λj v hj=>by rw[Addr.add_lit,a7 W f];exact z _ v (by rwa[AL]at hj)) D9 (λv hv=>a1 v (By hv))
  rw[<-l]at this;exact this
 obtain⟨W1,p⟩:∃W1,W1=w.drew.setRow b R1:=⟨_,rfl⟩;have a8:W1.heap[b]?=some (.cells R1 101 (0,0)):=by rw[p];exact setRow_heap _ _ _ _ _ _ a
 have a9:R1.size=c*2:=by rw[l];simp;omega
 have b7:∀j v,vs[j]?=some v->W1.cell? ⟨d,g+j,none⟩=some v:=λj v h=>by have h1:=a0 j v h;rw[p];unfold World.cell? at h1 ⊢;rw[setRow_other _ _ _ _ y];exact h1
 have q:∀W:World,W.heap=W1.heap->∀x,W.cell? x=W1.cell? x:=λW f x=>by unfold World.cell?;rw[f]
 have hB:∀(W:World),W.heap=W1.heap->∀ty o,(Builtin.copy_ #[97,97] ty #[.slice (some ⟨b,i*2,none⟩) (n+1-i) o,.slice (some ⟨d,g,none⟩) 1 r]).run prog W=.ok (goInt 1) (W.setRow b R2):=λW f ty o=>by
  have:=bv (P:=prog) W 97 97 ty 101 b (i*2) (n+1-i) o ⟨d,g,none⟩ 1 r 2 1 R1 101 vs underlying97 k (by simp only[D4];split<;>omega) (by rw[f];exact a8) D9
   (λj v hj=>by rw[Addr.add_lit,q W f];exact b7 j v hj) D9 a2
  rw[u,<-a4]at this;exact this
 have d3:¬(c=i):=D9;have c8:¬(c=i+1):=D9;have d4:IntKind.i64.wrap ((i:Int)+1)=(i:Int)+1:=by rw[AD];omega
 have d5:(0:Int)<=(i:Int)+1:=D9;have d6:i<=n:=D9;have d0:i<=n+1:=D9;have d7:((i:Int)+1).toNat=i+1:=D9;have d8:(i:Int)<=(n:Int):=D9;have d9:(i:Int)<=(n:Int)+1:=D9;clear l a4 z a0 b7 k t u a5 a1 a2 a s a3 a6 m a9;have mixed:prog.follows .mixedOrders=true:=EC
 go_enter func329,ntmps329
 go_wp2_with (simp only[c6])
 go_region_law_o (refine step_copy_runI rfl _ _ 97 97 rfl (.slice (some ⟨b,(i+1)*2,none⟩) (n+1-(i+1)) (c-(i+1))) (.slice (some ⟨b,i*2,none⟩) (n+1-i) (c-i)) (by simp[Act.eval,Act.put]) (by simp[Act.eval,Act.put]) (hA _ EF 3 (c-(i+1)) (c-i)) ?_)
 go_wp2_with (at_builtin;refine wpList_copy_runI _ rfl _ _ 97 97 rfl _ _ rfl rfl (hB _ (by rw[p];rfl) _ _) ?_)
 go_ret
 exact⟨rfl,rfl⟩
end Go.Proofs.YtdjbbndbalhekaaGreatDoor.Pv
namespace Go.Proofs
open Go.Shelf
def Tryz.growStop_ren:Go.Shelf.Ren:=⟨fun | 4=>361 | n=>n,fun | 22=>97 | 25=>101 | 3=>3 | 4=>4 | 9=>9 | 20=>20 | 0=>0 | 2=>3 | n=>n,fun | n=>n⟩
theorem Tryz.growStop:Go.Proofs.Lays8.n4 prog Tryz.growStop_ren:=by constructor<;>first|kernel_rfl|(intro _;kernel_rfl)|exact b9
open Go.RowKit Go.Lib in
theorem Tryz.slices_Grow_stop(i0:TypeInfo)(z:Value)(c:prog.info? (101)=some i0)(d:i0.zero=some z)(f:0<i0.size)(n:Nat)(w:World)(g:0<n)(b:(0+n)*i0.bytes<=140737488355328)(i:0+n<=4611686018427387904):
  Calls prog 361 #[.slice none 0 0,.int .i64 n] w λe w' =>
   e=.returned (.slice (some ⟨w.heap.size,0,none⟩) 0 (grownCap w (0+n) 0 (101))) /\
   w'=w.drew.alloc (.cells ((#[]:Array Value)++Builtin.zeroCells z.cells (0+n-0)++Builtin.zeroCells z.cells (grownCap w (0+n) 0 (101)-(0+n))) (101)):=Any8.slices_Grow_grow Tryz.growStop i0 z c d f none 0 0 n [] w (by omega) (by omega) b i (by simp) (λ_=>rfl) (λa h=>by cases h)
end Go.Proofs
namespace Go.Proofs.YtdjbbndbalhekaaGreatDoor.Hp
structure Str {α:Type} (lt:α->α->Bool):Prop where
 irr:∀a,lt a a=false
 tr:∀a b c,lt a b=true->lt b c=true->lt a c=true
 tot:∀a b,lt a b=false->lt b a=false->a=b
section
variable {α:Type}
def il[DecidableEq α](lt:α->α->Bool)(a b:Int × α):Bool:=if a.2=b.2 then decide (a.1<b.1) else lt a.2 b.2
def QG[DecidableEq α]{lt:α->α->Bool}(h:Str lt):Str (il lt):=by
 refine⟨λa=>by simp[il],λa b c h1 h2=>?_,λa b h1 h2=>?_⟩;unfold il at *
 by_cases d:a.2=b.2;grind;rw[if_neg d]at h1;by_cases e2:b.2=c.2;simp_all;rw[if_neg e2]at h2;have:=h.tr _ _ _ h1 h2;by_cases f:a.2=c.2;rw[f,h.irr]at this;cases this;simp_all;unfold il at *
 by_cases d:a.2=b.2;grind;rw[if_neg d]at h1;rw[if_neg (λe=>d e.symm)]at h2;exact absurd (h.tot _ _ h1 h2) d
abbrev zX(α:Type):=List (Int × α)
def zP[Inhabited α](l:zX α)(i:Nat):Int × α:=l.getD i default
def swp[Inhabited α](l:zX α)(i j:Nat):zX α:=(l.set i (zP l j)).set j (zP l i)
theorem Z6[Inhabited α](l:zX α)(i j:Nat):(swp l i j).length=l.length:=by simp[swp]
def Gq[Inhabited α](m:zX α)(a b:Nat)(x:Int × α)(c:a<m.length):zP (m.set a x) b=if b=a then x else zP m b:=by grind[zP]
def VD[Inhabited α](l:zX α)(i j k:Nat)(hi:i<l.length)(a:j<l.length):zP (swp l i j) k=if k=j then zP l i else if k=i then zP l j else zP l k:=by simp_all[swp,Gq]
def bw[Inhabited α](l:zX α)(i j:Nat)(hi:i<l.length)(a:j<l.length):(swp l i j).Perm l:=by have h:=Array.swap_perm (xs:=l.toArray) (i:=i) (j:=j) (by simpa using hi) (by simpa using a);grind[Array.perm_iff_toList_perm,swp,zP]
variable [DecidableEq α] [Inhabited α]
def yv(k:Nat):Nat:=(k-1)/2
def Yo(lt:α->α->Bool)(l:zX α)(n:Nat):Prop:=∀k,0<k->k<n->il lt (zP l k) (zP l (yv k))=false
def ud(lt:α->α->Bool):Nat->zX α->Nat->zX α
 |0,l,_=>l
 |f+1,l,j=>if yv j=j\/il lt (zP l j) (zP l (yv j))=false then l else ud lt f (swp l (yv j) j) (yv j)
def xN(lt:α->α->Bool)(l:zX α)(i n:Nat):Nat:=if 2*i+2<n/\il lt (zP l (2*i+2)) (zP l (2*i+1))=true then 2*i+2 else 2*i+1
def qT(lt:α->α->Bool):Nat->zX α->Nat->Nat->zX α × Nat
 |0,l,i,_=>(l,i)
 |f+1,l,i,n =>
  if n<=2*i+1 then (l,i)
  else if il lt (zP l (xN lt l i n)) (zP l i)=false then (l,i)
  else qT lt f (swp l i (xN lt l i n)) (xN lt l i n) n
def ZD{k:Nat}(h:0<k):yv k<k:=by unfold yv;omega
variable {lt:α->α->Bool}
theorem VE{β:Type}[DecidableEq β]{lt:β->β->Bool}(h:Str lt){a b c:Int × β}(h1:il lt a b=false)(h2:il lt b c=false):il lt a c=false:=by
 have s:=QG h;cases d:il lt a c with
 |false=>rfl
 |true =>
 cases hb:il lt c b with
 |true=>have:=s.tr _ _ _ d hb;simp_all
 |false=>have:=s.tot _ _ hb h2;simp_all
theorem bx{β:Type}[DecidableEq β]{lt:β->β->Bool}(h:Str lt){a b:Int × β}(h1:il lt a b=true):il lt b a=false:=by
 have s:=QG h;cases c:il lt b a with
 |false=>rfl
 |true=>have:=s.tr _ _ _ h1 c;rw[s.irr]at this;cases this
structure UpInv (lt:α->α->Bool) (l:zX α) (n j:Nat):Prop where
 rest:∀k,0<k->k<n->k≠j->il lt (zP l k) (zP l (yv k))=false
 kids:∀k,0<k->k<n->yv k=j->0<j->il lt (zP l k) (zP l (yv j))=false
def lK(h:Str lt):∀(f:Nat) (l:zX α) (n j:Nat),n<=l.length->j<n->j<f->UpInv lt l n j->Yo lt (ud lt f l j) n/\(ud lt f l j).Perm l/\(ud lt f l j).length=l.length/\∀k,n<=k->zP (ud lt f l j) k=zP l k:=by
 intro f;induction f with
 |zero=>omega
 |succ f v =>
 intro l n j hn hj hf b;unfold ud;split;rename_i hc;refine⟨λk c a=>?_,.refl _,rfl,λ_ _=>rfl⟩;by_cases g:k=j;subst g;obtain hc|hc:=hc;have:=ZD c;omega;omega;exact b.rest k c a g;rename_i hc;have r:yv j≠j:=λe=>hc (.inl e);have w:il lt (zP l j) (zP l (yv j))=true:=by
  cases hq:il lt (zP l j) (zP l (yv j)) with
  |true=>rfl
  |false=>simp_all
 have i:0<j:=by obtain e|e:=Ca j;subst e;exact absurd rfl r;exact e
 have hp:=ZD i;have m:yv j<l.length:=D9;have o:j<l.length:=D9;have d:=λk=>VD l (yv j) j k m o;have:=v (swp l (yv j) j) n (yv j) (by simp_all[Z6]) D9 D9 ⟨λk c a p=>?_,λk c a p q=>?_⟩;obtain⟨x,y,z,q4⟩:=this;refine⟨x,y.trans (bw l _ _ m o),z.trans (Z6 _ _ _),λk c=>?_⟩;rw[q4 k c,d k,if_neg D9,if_neg D9];rw[d k,d (yv k)];by_cases k1:k=j;simp_all[bx];rw[if_neg k1,if_neg p];by_cases s:yv k=j;rw[if_pos s];exact b.kids k c a s i;rw[if_neg s];by_cases t:yv k=yv j;rw[if_pos t];have:=b.rest k c a k1;grind[VE,bx];rw[if_neg t];exact b.rest k c a k1;have a0:=ZD q;rw[d k,d (yv (yv j)),if_neg (show yv (yv j)≠j by omega),if_neg (show yv (yv j)≠yv j by omega)];have u:=b.rest (yv j) q D9 D9;by_cases k1:k=j;simp_all;rw[if_neg k1,if_neg (by have:=ZD c;omega)];have:=b.rest k c a k1;grind[VE]
structure DownInv (lt:α->α->Bool) (l:zX α) (n i:Nat):Prop where
 rest:∀k,0<k->k<n->yv k≠i->k≠i->il lt (zP l k) (zP l (yv k))=false
 kids:∀k,0<k->k<n->yv k=i->0<i->il lt (zP l k) (zP l (yv i))=false
def lL(h:Str lt)(l:zX α)(i n:Nat)(hi:2*i+1<n):yv (xN lt l i n)=i/\xN lt l i n<n/\0<xN lt l i n/\i<xN lt l i n/\∀k,0<k->k<n->yv k=i->il lt (zP l k) (zP l (xN lt l i n))=false:=by
 have s:=QG h;unfold xN;split;rename_i hc;refine⟨by unfold yv;omega,hc.1,by omega,by omega,λk c a b=>?_⟩;have:k=2*i+1\/k=2*i+2:=by unfold yv at b;omega
 obtain rfl|rfl:=this;exact bx h hc.2;exact s.irr _;grind[yv,il]
def lM(h:Str lt):∀(f:Nat) (l:zX α) (n i:Nat),n<=l.length->i<n->n<=f+i->DownInv lt l n i ->
  (qT lt f l i n).1.Perm l/\(qT lt f l i n).1.length=l.length/\(∀k,n<=k->zP (qT lt f l i n).1 k=zP l k)/\i<=(qT lt f l i n).2/\(qT lt f l i n).2<n /\
  (i<(qT lt f l i n).2->Yo lt (qT lt f l i n).1 n) /\
  ((qT lt f l i n).2=i->(qT lt f l i n).1=l/\∀k,0<k->k<n->k≠i->il lt (zP l k) (zP l (yv k))=false):=by
 intro f;induction f with
 |zero=>omega
 |succ f y =>
 intro l n i hn hi hf c;have d:(∀k,0<k->k<n->yv k=i->il lt (zP l k) (zP l i)=false)->∀k,0<k->k<n->k≠i->il lt (zP l k) (zP l (yv k))=false:=by intro x k k0 b z;by_cases e:yv k=i;simp_all;exact c.rest k k0 b e z
 unfold qT;split;rename_i s;refine⟨.refl _,rfl,λ_ _=>rfl,Ag _,hi,λg=>by omega,λ_=>⟨rfl,d λk k0 b e=>?_⟩⟩;unfold yv at e;omega;rename_i s;obtain⟨c1,c2,c3,c4,c5⟩:=lL h l i n D9;split;rename_i hc;exact⟨.refl _,rfl,λ_ _=>rfl,Ag _,hi,λg=>by omega,λ_=>⟨rfl,d λk k0 b e=>VE h (c5 k k0 b e) hc⟩⟩;rename_i hc;have t:il lt (zP l (xN lt l i n)) (zP l i)=true:=by
  cases hq:il lt (zP l (xN lt l i n)) (zP l i) with
  |true=>rfl
  |false=>simp_all
 generalize hj:xN lt l i n=j at *;have m:i<l.length:=D9;have o:j<l.length:=D9;have a:=λk=>VD l i j k m o;have p:DownInv lt (swp l i j) n j:=by refine⟨λk k0 b u q=>?_,λk k0 b u j0=>?_⟩;rw[a k,a (yv k),if_neg q,if_neg u];by_cases k1:k=i;subst k1;rw[if_pos rfl];have v:=ZD k0;rw[if_neg D9];exact c.kids j c3 c2 c1 k0;rw[if_neg k1];by_cases r:yv k=i;rw[if_pos r];exact c5 k k0 b r;rw[if_neg r];exact c.rest k k0 b r k1;rw[a k,a (yv j),c1,if_neg (show i≠j by omega),if_pos rfl];have v:=ZD k0;rw[if_neg D9,if_neg D9];have:=c.rest k k0 b D9 D9;rw[u]at this;omega
 obtain⟨q1,q2,q3,q4,q5,q6,q7⟩:=y (swp l i j) n j (by simp_all[Z6]) c2 D9 p;refine⟨q1.trans (bw l _ _ m o),q2.trans (Z6 _ _ _),λk x=>by rw[q3 k x,a k,if_neg D9,if_neg D9],by omega,q5,λg=>?_,λhe=>by omega⟩;by_cases w:j<(qT lt f (swp l i j) j n).2;exact q6 w;obtain⟨r1,r2⟩:=q7 D9;rw[r1];intro k k0 b;by_cases q:k=j;subst q;rw[a k,a (yv k),c1,if_pos rfl,if_neg (show i≠k by omega),if_pos rfl];exact bx h t;exact r2 k k0 b q
theorem Gr:∀(f a:Nat) (l:zX α) (j:Nat),j<f->j<a->ud lt f l j=ud lt a l j:=by
 intro f;induction f with
 |zero=>omega
 |succ f b =>
 intro a l j h1 h2;cases a<;>grind[ud,yv]
theorem Gs(l:zX α)(i n:Nat):i<xN lt l i n:=by grind[xN]
theorem Gt:∀(f a:Nat) (l:zX α) (i n:Nat),n<=f+i->n<=a+i->qT lt f l i n=qT lt a l i n:=by
 intro f;induction f with
 |zero =>
 intro a l i n h1 h2;cases a<;>grind[qT]
 |succ f b =>
 intro a l i n h1 h2;cases a<;>grind[qT,Gs]
end
end Go.Proofs.YtdjbbndbalhekaaGreatDoor.Hp
