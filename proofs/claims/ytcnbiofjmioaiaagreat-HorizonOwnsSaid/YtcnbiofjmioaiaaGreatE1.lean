/- Part of a proof, packed. -/
import Derived.WalkKit
import Derived.OrdersIn
import Derived.ControlIn
import Derived.Laws.StructEq
import Derived.RangeFuncCalls
import Derived.RangeFuncRecord
import Derived.RangeFuncSeq
import Derived.Lib.Hide
import Derived.Test.YtcnbiofjmioaiaaGreatRows
import Derived.ProofKit
import Derived.Shelf.Small.Bits
import Derived.Shelf.Small.Wraps
import Derived.Shelf.Strconv.Itoa0
import Derived.Shelf.Sort.Plain
import Derived.Ground.Names2Prog
import Derived.Shelf.Slices.SearchI
import Derived.Shelf.Slices.In.SortNone
import Derived.Shelf.Slices.Empties
import Derived.Ground.SlsfProg
import Derived.Shelf.SlSortCmp.Insertion
import Derived.Shelf.SlSortCmp.SiftDown1
import Derived.Shelf.SlSortCmp.HeapSort1
import Derived.Shelf.SlSortCmp.Insertion1
import Derived.Shelf.SlSortCmp.Median1
import Derived.Shelf.SlSortCmp.Pivot1
import Derived.Shelf.SlSortCmp.ReverseRange1
import Derived.Shelf.SlSortCmp.PartialInsertion1
import Derived.Shelf.SlSortCmp.PartitionEqual1
import Derived.Shelf.SlSortCmp.Partition1
import Derived.Shelf.SlSortCmp.Pdq1
import Derived.Shelf.SlSortCmp.Whole1
import Derived.Shelf.SlSortCmp.NoneTotal
import Derived.Test.YtcnbiofjmioaiaaGreatProg
import Derived.Sort.OwnSortedInts
import Derived.Laws.CopyRow
import Derived.Laws.IdiomCopy
import Derived.Laws.Externs
import Derived.Shelf.Spec.SlicesInsertGrow
import Derived.Shelf.Spec.SlicesGrow
import Derived.Lib.QuietBelow
import Derived.Lib.SliceRun
import Derived.Lib.SlicesDelete
import Derived.Deep.RegionLaw
import Derived.WalkSmall
import Derived.Carry
set_option maxRecDepth 100000
set_option maxHeartbeats 3200000
namespace Go.Proofs
open Go.Shelf
def Tryz.lays189_ren:Go.Shelf.Ren:=⟨fun | 189=>175 | 125=>219 | 257=>218 | 128=>253 | 129=>254 | 294=>245 | 295=>246 | 296=>247 | 297=>248 | 298=>249 | 299=>250 | 216=>177 | 300=>251 | 301=>252 | 328=>267 | 329=>268 | 330=>269 | 331=>270 | 332=>271 | 215=>224 | 343=>278 | n=>n,fun | 28=>45 | 3=>3 | 46=>234 | 0=>0 | 51=>303 | 53=>93 | 4=>4 | 183=>297 | 182=>296 | 131=>182 | 5=>5 | 9=>9 | 218=>318 | 222=>321 | 228=>333 | 229=>256 | n=>n,fun | n=>n⟩
theorem Tryz.lays189:Go.Proofs.Lays.n189 Tryz.prog Tryz.lays189_ren:={
 mixed:=by kernel_rfl
 f125:=Tryz.func219.trans (congrArg some (by kernel_rfl))
 f128:=Tryz.func253.trans (congrArg some (by kernel_rfl))
 f129:=Tryz.func254.trans (congrArg some (by kernel_rfl))
 f189:=Tryz.func175.trans (congrArg some (by kernel_rfl))
 f215:=Tryz.func224.trans (congrArg some (by kernel_rfl))
 f216:=Tryz.func177.trans (congrArg some (by kernel_rfl))
 f257:=Tryz.func218.trans (congrArg some (by kernel_rfl))
 f294:=Tryz.func245.trans (congrArg some (by kernel_rfl))
 f295:=Tryz.func246.trans (congrArg some (by kernel_rfl))
 f296:=Tryz.func247.trans (congrArg some (by kernel_rfl))
 f297:=Tryz.func248.trans (congrArg some (by kernel_rfl))
 f298:=Tryz.func249.trans (congrArg some (by kernel_rfl))
 f299:=Tryz.func250.trans (congrArg some (by kernel_rfl))
 f300:=Tryz.func251.trans (congrArg some (by kernel_rfl))
 f301:=Tryz.func252.trans (congrArg some (by kernel_rfl))
 f328:=Tryz.func267.trans (congrArg some (by kernel_rfl))
 f329:=Tryz.func268.trans (congrArg some (by kernel_rfl))
 f330:=Tryz.func269.trans (congrArg some (by kernel_rfl))
 f331:=Tryz.func270.trans (congrArg some (by kernel_rfl))
 f332:=Tryz.func271.trans (congrArg some (by kernel_rfl))
 f343:=Tryz.func278.trans (congrArg some (by kernel_rfl))
 t0:=Tryz.underlying0
 a0:=Tryz.isAgg0
 z0:=Tryz.sizeOf0
 v0:=Tryz.zeroValue0
 t3:=Tryz.underlying3
 a3:=Tryz.isAgg3
 z3:=Tryz.sizeOf3
 v3:=Tryz.zeroValue3
 t4:=Tryz.underlying4
 a4:=Tryz.isAgg4
 z4:=Tryz.sizeOf4
 v4:=Tryz.zeroValue4
 t5:=Tryz.underlying5
 a5:=Tryz.isAgg5
 z5:=Tryz.sizeOf5
 v5:=Tryz.zeroValue5
 t9:=Tryz.underlying9
 a9:=Tryz.isAgg9
 z9:=Tryz.sizeOf9
 v9:=Tryz.zeroValue9
 t28:=Tryz.underlying45
 a28:=Tryz.isAgg45
 z28:=Tryz.sizeOf45
 v28:=Tryz.zeroValue45
 t46:=Tryz.underlying234
 a46:=Tryz.isAgg234
 z46:=Tryz.sizeOf234
 v46:=Tryz.zeroValue234
 t51:=Tryz.underlying303
 a51:=Tryz.isAgg303
 z51:=Tryz.sizeOf303
 v51:=Tryz.zeroValue303
 t53:=Tryz.underlying93
 a53:=Tryz.isAgg93
 z53:=Tryz.sizeOf93
 v53:=Tryz.zeroValue93
 t131:=Tryz.underlying182
 a131:=Tryz.isAgg182
 z131:=Tryz.sizeOf182
 v131:=Tryz.zeroValue182
 t182:=Tryz.underlying296
 a182:=Tryz.isAgg296
 z182:=Tryz.sizeOf296
 v182:=Tryz.zeroValue296
 t183:=Tryz.underlying297
 a183:=Tryz.isAgg297
 z183:=Tryz.sizeOf297
 v183:=Tryz.zeroValue297
 t218:=Tryz.underlying318
 a218:=Tryz.isAgg318
 z218:=Tryz.sizeOf318
 v218:=Tryz.zeroValue318
 t222:=Tryz.underlying321
 a222:=Tryz.isAgg321
 z222:=Tryz.sizeOf321
 v222:=Tryz.zeroValue321
 t228:=Tryz.underlying333
 a228:=Tryz.isAgg333
 z228:=Tryz.sizeOf333
 v228:=Tryz.zeroValue333
 t229:=Tryz.underlying256
 a229:=Tryz.isAgg256
 z229:=Tryz.sizeOf256
 v229:=Tryz.zeroValue256 }
open Go.Sort Go.RowKit in
theorem Tryz.slices_Sort_int (blk off cap:Nat) (zs:List Int) (w:World) (hH:Holds (Value.int .i64) w blk off zs.toArray) (hblk:blk<w.heap.size) (hsz:zs.length<4611686018427387904) :
  Calls Tryz.prog 175 #[.slice (some ⟨blk,off,none⟩) zs.length cap] w fun e w' =>
   e=.returned (.tuple #[])/\∃n os,w'=grow (putRow (Value.int .i64) (Sort.ahead w n) blk off (zs.mergeSort fun x y=>decide (x<=y)).toArray) os:=Any.slices_Sort_int Tryz.lays189 blk off cap zs w hH hblk hsz
def Tryz.laysNm225_ren:Go.Shelf.Ren:=⟨fun | 25=>139 | 31=>177 | 32=>178 | 37=>224 | n=>n,fun | 22=>45 | 3=>3 | 4=>4 | 40=>234 | 0=>0 | n=>n,fun | n=>n⟩
theorem Tryz.laysNm225:Go.Proofs.Lays2.n25 Tryz.prog Tryz.laysNm225_ren:={
 mixed:=by kernel_rfl
 f25:=Tryz.func139.trans (congrArg some (by kernel_rfl))
 f31:=Tryz.func177.trans (congrArg some (by kernel_rfl))
 f32:=Tryz.func178.trans (congrArg some (by kernel_rfl))
 f37:=Tryz.func224.trans (congrArg some (by kernel_rfl))
 t0:=Tryz.underlying0
 a0:=Tryz.isAgg0
 z0:=Tryz.sizeOf0
 v0:=Tryz.zeroValue0
 t3:=Tryz.underlying3
 a3:=Tryz.isAgg3
 z3:=Tryz.sizeOf3
 v3:=Tryz.zeroValue3
 t4:=Tryz.underlying4
 a4:=Tryz.isAgg4
 z4:=Tryz.sizeOf4
 v4:=Tryz.zeroValue4
 t22:=Tryz.underlying45
 a22:=Tryz.isAgg45
 z22:=Tryz.sizeOf45
 v22:=Tryz.zeroValue45
 t40:=Tryz.underlying234
 a40:=Tryz.isAgg234
 z40:=Tryz.sizeOf234
 v40:=Tryz.zeroValue234 }
open Go.RowKit Go.Lib in
theorem Tryz.slices_BinarySearch_int (b off n c:Nat) (zs:List Int) (x:Int) (w:World) (hz:n<=zs.length) (hbig:n<4611686018427387904) (hc:∀j,j<zs.length->w.cell? ⟨b,off+j,none⟩=some (.int .i64 (zs.getD j 0))) (hs:(zs.take n).Pairwise (·<=·)) :
  Calls Tryz.prog 139 #[.slice (some ⟨b,off,none⟩) n c,.int .i64 x] w fun e w'=>e=.returned (.tuple #[.int .i64 ((zs.take n).countP (·<x):Nat),.bool ((zs.take n).contains x)])/\∃q,w'=w.drewN q:=Any.slices_BinarySearch_int Tryz.laysNm225 b off n c zs x w hz hbig hc hs
open Go.RowKit Go.Sort in
theorem Tryz.slices_Sort_int_none (p:Option Addr) (cap:Nat) (w:World) :
  Calls Tryz.prog 175 #[.slice p 0 cap] w fun e w'=>e=.returned (.tuple #[])/\w'=w:=Any.slices_Sort_int_none Tryz.lays189 p cap w
open Go.RowKit Go.Lib in
theorem Tryz.slices_BinarySearch_int_empty (a:Option Addr) (c:Nat) (x:Int) (w:World) :
  Calls Tryz.prog 139 #[.slice a 0 c,.int .i64 x] w fun e w'=>e=.returned (.tuple #[.int .i64 0,.bool false])/\w'=w:=Any.slices_BinarySearch_int_empty Tryz.laysNm225 a c x w
def Tryz.laysSlF6_f279_ren:Go.Shelf.Ren:=⟨fun | 6=>279 | 15=>219 | 14=>285 | 28=>253 | 29=>254 | 20=>287 | 21=>288 | 22=>289 | 23=>290 | 24=>291 | 25=>292 | 26=>293 | 27=>294 | 46=>295 | 47=>268 | 48=>269 | 49=>296 | 50=>297 | 57=>298 | n=>n,fun | 22=>45 | 24=>3 | 25=>160 | 3=>3 | 39=>234 | 0=>0 | 53=>303 | 55=>93 | 4=>4 | 46=>297 | 45=>296 | 50=>182 | 5=>5 | 9=>9 | 66=>318 | 70=>321 | 76=>333 | 77=>256 | n=>n,fun | n=>n⟩
theorem Tryz.laysSlF6_f279:Go.Proofs.SlLaysF.n6 Tryz.prog Tryz.laysSlF6_f279_ren:={
 mixed:=by kernel_rfl
 f6:=⟨Tryz.f279.name,by decide,Tryz.func279.trans (congrArg some (by kernel_rfl))⟩
 f14:=⟨Tryz.f285.name,by decide,Tryz.func285.trans (congrArg some (by kernel_rfl))⟩
 f15:=Tryz.func219.trans (congrArg some (by kernel_rfl))
 f20:=⟨Tryz.f287.name,by decide,Tryz.func287.trans (congrArg some (by kernel_rfl))⟩
 f21:=⟨Tryz.f288.name,by decide,Tryz.func288.trans (congrArg some (by kernel_rfl))⟩
 f22:=⟨Tryz.f289.name,by decide,Tryz.func289.trans (congrArg some (by kernel_rfl))⟩
 f23:=⟨Tryz.f290.name,by decide,Tryz.func290.trans (congrArg some (by kernel_rfl))⟩
 f24:=⟨Tryz.f291.name,by decide,Tryz.func291.trans (congrArg some (by kernel_rfl))⟩
 f25:=⟨Tryz.f292.name,by decide,Tryz.func292.trans (congrArg some (by kernel_rfl))⟩
 f26:=⟨Tryz.f293.name,by decide,Tryz.func293.trans (congrArg some (by kernel_rfl))⟩
 f27:=⟨Tryz.f294.name,by decide,Tryz.func294.trans (congrArg some (by kernel_rfl))⟩
 f28:=Tryz.func253.trans (congrArg some (by kernel_rfl))
 f29:=Tryz.func254.trans (congrArg some (by kernel_rfl))
 f46:=⟨Tryz.f295.name,by decide,Tryz.func295.trans (congrArg some (by kernel_rfl))⟩
 f47:=Tryz.func268.trans (congrArg some (by kernel_rfl))
 f48:=Tryz.func269.trans (congrArg some (by kernel_rfl))
 f49:=⟨Tryz.f296.name,by decide,Tryz.func296.trans (congrArg some (by kernel_rfl))⟩
 f50:=⟨Tryz.f297.name,by decide,Tryz.func297.trans (congrArg some (by kernel_rfl))⟩
 f57:=⟨Tryz.f298.name,by decide,Tryz.func298.trans (congrArg some (by kernel_rfl))⟩
 t0:=Tryz.underlying0
 a0:=Tryz.isAgg0
 z0:=Tryz.sizeOf0
 v0:=Tryz.zeroValue0
 t3:=Tryz.underlying3
 a3:=Tryz.isAgg3
 z3:=Tryz.sizeOf3
 v3:=Tryz.zeroValue3
 t4:=Tryz.underlying4
 a4:=Tryz.isAgg4
 z4:=Tryz.sizeOf4
 v4:=Tryz.zeroValue4
 t5:=Tryz.underlying5
 a5:=Tryz.isAgg5
 z5:=Tryz.sizeOf5
 v5:=Tryz.zeroValue5
 t9:=Tryz.underlying9
 a9:=Tryz.isAgg9
 z9:=Tryz.sizeOf9
 v9:=Tryz.zeroValue9
 t22:=Tryz.underlying45
 a22:=Tryz.isAgg45
 z22:=Tryz.sizeOf45
 v22:=Tryz.zeroValue45
 a24:=Tryz.isAgg3
 z24:=Tryz.sizeOf3
 t25:=Tryz.underlying160
 a25:=Tryz.isAgg160
 z25:=Tryz.sizeOf160
 v25:=Tryz.zeroValue160
 t39:=Tryz.underlying234
 a39:=Tryz.isAgg234
 z39:=Tryz.sizeOf234
 v39:=Tryz.zeroValue234
 t45:=Tryz.underlying296
 a45:=Tryz.isAgg296
 z45:=Tryz.sizeOf296
 v45:=Tryz.zeroValue296
 t46:=Tryz.underlying297
 a46:=Tryz.isAgg297
 z46:=Tryz.sizeOf297
 v46:=Tryz.zeroValue297
 t50:=Tryz.underlying182
 a50:=Tryz.isAgg182
 z50:=Tryz.sizeOf182
 v50:=Tryz.zeroValue182
 t53:=Tryz.underlying303
 a53:=Tryz.isAgg303
 z53:=Tryz.sizeOf303
 v53:=Tryz.zeroValue303
 t55:=Tryz.underlying93
 a55:=Tryz.isAgg93
 z55:=Tryz.sizeOf93
 v55:=Tryz.zeroValue93
 t66:=Tryz.underlying318
 a66:=Tryz.isAgg318
 z66:=Tryz.sizeOf318
 v66:=Tryz.zeroValue318
 t70:=Tryz.underlying321
 a70:=Tryz.isAgg321
 z70:=Tryz.sizeOf321
 v70:=Tryz.zeroValue321
 t76:=Tryz.underlying333
 a76:=Tryz.isAgg333
 z76:=Tryz.sizeOf333
 v76:=Tryz.zeroValue333
 t77:=Tryz.underlying256
 a77:=Tryz.isAgg256
 z77:=Tryz.sizeOf256
 v77:=Tryz.zeroValue256 }
def Tryz.laysSlF06_f279_ren:Go.Shelf.Ren:=⟨fun | 6=>279 | 15=>219 | 14=>285 | 28=>253 | 29=>254 | 20=>287 | 21=>288 | 22=>289 | 23=>290 | 24=>291 | 25=>292 | 26=>293 | 27=>294 | 46=>295 | 47=>268 | 48=>269 | 49=>296 | 50=>297 | 57=>298 | n=>n,fun | 22=>45 | 24=>3 | 25=>160 | 3=>3 | 39=>234 | 0=>0 | 53=>303 | 55=>93 | 4=>4 | 46=>297 | 45=>296 | 50=>182 | 5=>5 | 9=>9 | 66=>318 | 70=>321 | 76=>333 | 77=>256 | n=>n,fun | n=>n⟩
theorem Tryz.laysSlF06_f279:Go.Proofs.SlLaysF0.n6 Tryz.prog Tryz.laysSlF06_f279_ren:={
 mixed:=by kernel_rfl
 f6:=⟨Tryz.f279.name,by decide,Tryz.func279.trans (congrArg some (by kernel_rfl))⟩
 f14:=⟨Tryz.f285.name,by decide,Tryz.func285.trans (congrArg some (by kernel_rfl))⟩
 f15:=Tryz.func219.trans (congrArg some (by kernel_rfl))
 f20:=⟨Tryz.f287.name,by decide,Tryz.func287.trans (congrArg some (by kernel_rfl))⟩
 f21:=⟨Tryz.f288.name,by decide,Tryz.func288.trans (congrArg some (by kernel_rfl))⟩
 f22:=⟨Tryz.f289.name,by decide,Tryz.func289.trans (congrArg some (by kernel_rfl))⟩
 f23:=⟨Tryz.f290.name,by decide,Tryz.func290.trans (congrArg some (by kernel_rfl))⟩
 f24:=⟨Tryz.f291.name,by decide,Tryz.func291.trans (congrArg some (by kernel_rfl))⟩
 f25:=⟨Tryz.f292.name,by decide,Tryz.func292.trans (congrArg some (by kernel_rfl))⟩
 f26:=⟨Tryz.f293.name,by decide,Tryz.func293.trans (congrArg some (by kernel_rfl))⟩
 f27:=⟨Tryz.f294.name,by decide,Tryz.func294.trans (congrArg some (by kernel_rfl))⟩
 f28:=Tryz.func253.trans (congrArg some (by kernel_rfl))
 f29:=Tryz.func254.trans (congrArg some (by kernel_rfl))
 f46:=⟨Tryz.f295.name,by decide,Tryz.func295.trans (congrArg some (by kernel_rfl))⟩
 f47:=Tryz.func268.trans (congrArg some (by kernel_rfl))
 f48:=Tryz.func269.trans (congrArg some (by kernel_rfl))
 f49:=⟨Tryz.f296.name,by decide,Tryz.func296.trans (congrArg some (by kernel_rfl))⟩
 f50:=⟨Tryz.f297.name,by decide,Tryz.func297.trans (congrArg some (by kernel_rfl))⟩
 f57:=⟨Tryz.f298.name,by decide,Tryz.func298.trans (congrArg some (by kernel_rfl))⟩
 t0:=Tryz.underlying0
 a0:=Tryz.isAgg0
 z0:=Tryz.sizeOf0
 v0:=Tryz.zeroValue0
 t3:=Tryz.underlying3
 a3:=Tryz.isAgg3
 z3:=Tryz.sizeOf3
 v3:=Tryz.zeroValue3
 t4:=Tryz.underlying4
 a4:=Tryz.isAgg4
 z4:=Tryz.sizeOf4
 v4:=Tryz.zeroValue4
 t5:=Tryz.underlying5
 a5:=Tryz.isAgg5
 z5:=Tryz.sizeOf5
 v5:=Tryz.zeroValue5
 t9:=Tryz.underlying9
 a9:=Tryz.isAgg9
 z9:=Tryz.sizeOf9
 v9:=Tryz.zeroValue9
 t22:=Tryz.underlying45
 a22:=Tryz.isAgg45
 z22:=Tryz.sizeOf45
 v22:=Tryz.zeroValue45
 t25:=Tryz.underlying160
 a25:=Tryz.isAgg160
 z25:=Tryz.sizeOf160
 v25:=Tryz.zeroValue160
 t39:=Tryz.underlying234
 a39:=Tryz.isAgg234
 z39:=Tryz.sizeOf234
 v39:=Tryz.zeroValue234
 t45:=Tryz.underlying296
 a45:=Tryz.isAgg296
 z45:=Tryz.sizeOf296
 v45:=Tryz.zeroValue296
 t46:=Tryz.underlying297
 a46:=Tryz.isAgg297
 z46:=Tryz.sizeOf297
 v46:=Tryz.zeroValue297
 t50:=Tryz.underlying182
 a50:=Tryz.isAgg182
 z50:=Tryz.sizeOf182
 v50:=Tryz.zeroValue182
 t53:=Tryz.underlying303
 a53:=Tryz.isAgg303
 z53:=Tryz.sizeOf303
 v53:=Tryz.zeroValue303
 t55:=Tryz.underlying93
 a55:=Tryz.isAgg93
 z55:=Tryz.sizeOf93
 v55:=Tryz.zeroValue93
 t66:=Tryz.underlying318
 a66:=Tryz.isAgg318
 z66:=Tryz.sizeOf318
 v66:=Tryz.zeroValue318
 t70:=Tryz.underlying321
 a70:=Tryz.isAgg321
 z70:=Tryz.sizeOf321
 v70:=Tryz.zeroValue321
 t76:=Tryz.underlying333
 a76:=Tryz.isAgg333
 z76:=Tryz.sizeOf333
 v76:=Tryz.zeroValue333
 t77:=Tryz.underlying256
 a77:=Tryz.isAgg256
 z77:=Tryz.sizeOf256
 v77:=Tryz.zeroValue256 }
open Go.RowKit Go.Lib Go.Sort in
theorem Tryz.slices_SortFunc_none {α:Type} [Inhabited α] (p:Option Addr) (cap:Nat) (fv:Value) (w:World) :
  Calls Tryz.prog 279 #[.slice p 0 cap,fv] w fun e w'=>e=.returned (.tuple #[])/\w'=w:=AnyF.slices_SortFunc_none Tryz.laysSlF06_f279 p cap fv w
open Go.RowKit Go.Lib Go.Sort in
theorem Tryz.slices_SortFunc_total {α:Type} [Inhabited α] (enc:α->Value) (h1:OneCell enc) (cf:α->α->Int) (hO:SWO (ltOf cf)) (g:Nat) (cb:Array Value) (blk off cap:Nat) (d:Array α) (w:World) (eg:∀args w,(callFunc g args).run Tryz.prog w=.ok (.enter g args) w) (hcmp:CmpLays1 Tryz.prog g cb enc cf blk off d.size w) (hH:Holds enc w blk off d) (hblk:blk<w.heap.size) (hsz:d.size<4611686018427387904) (hT:∀x y,(ltOf cf) x y=false->(ltOf cf) y x=false->x=y) :
  Calls Tryz.prog 279 #[.slice (some ⟨blk,off,none⟩) d.size cap,.func (.func g) #[] cb] w fun e w' =>
   e=.returned (.tuple #[])/\∃n os,w'=sortWorld enc w blk off n (d.toList.mergeSort fun x y=>!(ltOf cf) y x).toArray os:=Any.slices_SortFunc_total Tryz.laysSlF6_f279 enc h1 cf hO g cb blk off cap d w eg hcmp hH hblk hsz hT
end Go.Proofs
namespace Go.Proofs.YtcnbiofjmioaiaaGreat.Pv
open Go Go.Proofs Go.Shelf Go.RowKit Go.Lib
theorem Jp {P:Program} (w:World) (dT sT ty elem:TypeId) (g o dLen dCap:Nat) (a:Addr) (sLen sCap k n:Nat) (cur:Array Value) (t:TypeId) (cs:List Value)
  (hu:P.underlying dT=some (.slice elem)) (hs:(P.info? elem).map (·.size)=some k) (hn:n=Nat.min sLen dLen)
  (hg:w.heap[g]?=some (.cells cur t (0,0))) (hl:cs.length=n*k)
  (hsrc:∀j v,cs[j]?=some v->w.cell? (a.add j)=some v) (hfit:o+cs.length<=cur.size) (h1:∀v∈cs,v.oneCell'=true) :
  (Builtin.copy_ #[dT,sT] ty #[.slice (some ⟨g,o,none⟩) dLen dCap,.slice (some a) sLen sCap]).run P w =
   .ok (goInt n) (w.setRow g (cur.toList.take o++cs++cur.toList.drop (o+cs.length)).toArray):=by
 have hld:=run_loadCells_list (P:=P) w a cs hsrc
 have hst:=run_storeCells_at P g o t cs 0 cur w hg (by simpa using hfit) h1
 rw [hl] at hld
 cases hq:P.info? elem with
 | none=>simp [hq] at hs
 | some i =>
  have hi:i.size=k:=by simpa [hq] using hs
  simp [Builtin.copy_,run_underlying hu,Builtin.lenOf,Builtin.firstCells,sizeOf,typeInfo,hq,hi,<-hn,hld,hst]
theorem Ze6 {P:Program} (w:World) (tS tR e:TypeId) (ht:P.underlying tS=some (.slice e)) (size:Nat) (hz:∀w,(Go.sizeOf e).run P w=.ok size w)
  (a b:Addr) (la ca lb cb:Nat) (hne:a.block≠b.block) (tA tB:TypeId) (kA kB:Nat)
  (hsa:w.shape? a.block=some (tA,kA+1)) (hsb:w.shape? b.block=some (tB,kB+1))
  (hfb:w.frozen? b=false) (hfe:w.frozen? { block:=b.block,off:=kB+1 }=false) :
  (Extern.SlicesOverlaps.overlaps #[tS,tS] #[tR] #[.slice (some a) la ca,.slice (some b) lb cb]).run P w=.ok (.bool false) w:=by
 have hn1:(a.block != b.block)=true:=by simpa using hne
 have hn2:(a.block == b.block)=false:=by simpa using hne
 conv=>lhs;arg 2;whnf
 rw [Sem.run]
 simp only [Sem.bind,List.getElem_toArray,List.getElem_cons_zero,ht]
 change Sem.run P (Bind.bind (pure (TypeDesc.slice e):Sem TypeDesc) _) w=_
 by_cases h0:la=0\/lb=0\/size=0
 ·simp [hz,h0]
 ·cases hf1:w.frozen? a<;>cases hf2:w.frozen? { block:=a.block,off:=kA+1 } <;>
   simp [hz,h0,hn1,hn2,frozen,noView,viewAt,mayBeOne,stringish,shape,Sem.run,hsa,hsb,hf1,hf2,hfb,hfe]
theorem Ze7 (b n c i vb vo vc:Nat) (cs vs:List Value) (w:World) (i0:TypeInfo) (z:Value) (hi0:Tryz.prog.info? 35=some i0) (hz0:i0.zero=some z) (hzs:i0.size=2) (hzb:i0.bytes=16) (hzc:z.cells.size=2)
  (hi:i<n) (hnc:n<=c) (hroom:c<n+1) (hn:n<=1048576) (hcl:cs.length=n*2) (hvl:vs.length=2)
  (hcs:∀j v,cs[j]?=some v->w.cell? ⟨b,j,none⟩=some v) (hvs:∀j v,vs[j]?=some v->w.cell? ⟨vb,vo+j,none⟩=some v) (h1c:∀v∈cs,v.oneCell'=true) (h1v:∀v∈vs,v.oneCell'=true)
  (G:Nat) (hG:G=grownCap w (n+1) c 35) (ROW:Array Value) (hROW:ROW=(cs.take (i*2)).toArray++Builtin.zeroCells z.cells (n+1-i)++Builtin.zeroCells z.cells (G-(n+1))) (R1 R2:Array Value)
  (hR1:R1=(ROW.toList.take (i*2)++vs++ROW.toList.drop (i*2+2)).toArray) (hR2:R2=(R1.toList.take ((i+1)*2)++cs.drop (i*2)++R1.toList.drop ((i+1)*2+(cs.drop (i*2)).length)).toArray) :
  Calls Tryz.prog 102 #[.slice (some ⟨b,0,none⟩) n c,.int .i64 i,.slice (some ⟨vb,vo,none⟩) 1 vc] w fun e w' =>
   e=.returned (.slice (some ⟨w.heap.size,0,none⟩) (n+1) G)/\w'=((w.drew.alloc (.cells ROW 35)).setRow w.heap.size R1).drew.setRow w.heap.size R2:=by
 have hz1:¬((i:Int)=(n:Int)):=by omega
 have hz3:(c:Int)<(n:Int)+1:=by omega
 have hsz:(Tryz.prog.info? 35).map (·.size)=some 2:=by rw [hi0];simp [hzs]
 have hkk:(n:Int)+1-(i:Int)=((n+1-i:Nat):Int):=by omega
 have hik:i+(n+1-i)=n+1:=by omega
 have hold:(Builtin.firstCells i0.size i (.slice (some ⟨b,0,none⟩) i c)).run Tryz.prog w.drew=.ok (cs.take (i*2)).toArray w.drew:=by
  rw [hzs]
  exact run_firstCells_some w.drew 2 i ⟨b,0,none⟩ i c (cs.take (i*2)) (by rw [List.length_take];omega) (fun j v hj=>by
   rw [List.getElem?_take] at hj
   split at hj
   ·have:=hcs j v hj
    rw [Addr.add_lit,Nat.zero_add];exact this
   ·cases hj)
 have hrz:∀ty,(Builtin.append_ #[31,3] ty #[.slice (some ⟨b,0,none⟩) i c,.int .i64 ((n:Int)+1-(i:Int))]).run Tryz.prog w =
   .ok (.slice (some ⟨w.heap.size,0,none⟩) (n+1) G) (w.drew.alloc (.cells ROW 35)):=fun ty=>by
  have h:=Lib.run_append_grow_zeros w 31 3 ty 35 i0 _ .i64 .i64 Tryz.underlying31 Tryz.underlying3 hi0 hz0 (some ⟨b,0,none⟩) i c (cs.take (i*2)) hold (n+1-i) (by omega) (by omega) (by omega) (by omega) (by rw [hzb];omega) (by rw [hzb,hik];exact growslice_fits hroom (by omega))
  rw [hik] at h
  rw [hkk,hROW,hG]
  exact h
 have hRl:ROW.size=G*2:=by
  rw [hROW]
  have:=grownCap_ge w (n+1) c 35
  simp [Builtin.zeroCells,hzc]
  omega
 have hGn:n+1<=G:=by rw [hG];exact grownCap_ge w _ _ _
 have hG63:G<=9223372036854775807:=by
  have:=grownCap_le_maxLen w (n+1) c 35 (by unfold maxLen;omega)
  rw [<-hG] at this
  unfold maxLen at this
  omega
 have hbw:b<w.heap.size:=block_lt_of_cell (hcs 0 _ (List.getElem?_eq_getElem (by omega)))
 have hvw:vb<w.heap.size:=block_lt_of_cell (hvs 0 _ (List.getElem?_eq_getElem (by omega)))
 obtain ⟨W1,hW1⟩:∃W1,W1=w.drew.alloc (.cells ROW 35):=⟨_,rfl⟩
 have hWh:W1.heap[w.heap.size]?=some (.cells ROW 35 (0,0)):=by rw [hW1];show (w.heap.push _)[w.heap.size]?=_;exact Array.getElem?_push_size
 have hOb:∀b',b'<w.heap.size->∀j v,w.cell? ⟨b',j,none⟩=some v->W1.cell? ⟨b',j,none⟩=some v:=fun b' hb' j v h=>by rw [hW1,World.cell?_alloc_past (w:=w.drew) _ b' j hb'];exact h
 have hceq:∀W:World,W.heap=W1.heap->∀x,W.cell? x=W1.cell? x:=fun W hW x=>by unfold World.cell?;rw [hW]
 have hA:∀(W:World),W.heap=W1.heap->∀ty dc,(Builtin.copy_ #[31,31] ty #[.slice (some ⟨w.heap.size,i*2,none⟩) (n+1-i) dc,.slice (some ⟨vb,vo,none⟩) 1 vc]).run Tryz.prog W=.ok (goInt 1) (W.setRow w.heap.size R1):=fun W hW ty dc=>by
  have:=Jp (P:=Tryz.prog) W 31 31 ty 35 w.heap.size (i*2) (n+1-i) dc ⟨vb,vo,none⟩ 1 vc 2 1 ROW 35 vs Tryz.underlying31 hsz (by simp only [Nat.min_def];split<;>omega) (by rw [hW];exact hWh) (by omega)
   (fun j v hj=>by rw [Addr.add_lit,hceq W hW];exact hOb vb hvw _ v (hvs j v hj)) (by omega) h1v
  rw [hvl,<-hR1] at this
  exact this
 obtain ⟨W2,hW2⟩:∃W2,W2=W1.setRow w.heap.size R1:=⟨_,rfl⟩
 have hW2h:W2.heap[w.heap.size]?=some (.cells R1 35 (0,0)):=by rw [hW2];exact setRow_heap _ _ _ _ _ _ hWh
 have hR1l:R1.size=G*2:=by rw [hR1];simp;omega
 have hOb2:∀j v,cs[j]?=some v->W2.cell? ⟨b,j,none⟩=some v:=fun j v h=>by
  have h1:=hOb b hbw j v (hcs j v h)
  rw [hW2]
  have h2:(W1.setRow w.heap.size R1).heap[b]?=W1.heap[b]?:=by unfold World.setRow;simp only [Array.getElem?_modify];rw [if_neg (by omega)]
  unfold World.cell? at h1 ⊢
  rw [h2];exact h1
 have hceq2:∀W:World,W.heap=W2.heap->∀x,W.cell? x=W2.cell? x:=fun W hW x=>by unfold World.cell?;rw [hW]
 have hdl:(cs.drop (i*2)).length=(n-i)*2:=by rw [List.length_drop,hcl];omega
 have hB:∀(W:World),W.heap=W2.heap->∀ty dc sc,(Builtin.copy_ #[31,31] ty #[.slice (some ⟨w.heap.size,(i+1)*2,none⟩) (n+1-(i+1)) dc,.slice (some ⟨b,i*2,none⟩) (n-i) sc]).run Tryz.prog W=.ok (goInt (n-i:Nat)) (W.setRow w.heap.size R2):=fun W hW ty dc sc=>by
  have:=Jp (P:=Tryz.prog) W 31 31 ty 35 w.heap.size ((i+1)*2) (n+1-(i+1)) dc ⟨b,i*2,none⟩ (n-i) sc 2 (n-i) R1 35 (cs.drop (i*2)) Tryz.underlying31 hsz (by simp only [Nat.min_def];split<;>omega) (by rw [hW];exact hW2h) hdl
   (fun j v hj=>by rw [Addr.add_lit,hceq2 W hW];exact hOb2 _ v (by rwa [List.getElem?_drop] at hj)) (by omega) (fun v hv=>h1c v (List.mem_of_mem_drop hv))
  rw [<-hR2] at this
  exact this
 have hW1e:W1.heap=(w.drew.alloc (.cells ROW 35)).heap:=by rw [hW1]
 clear hROW hR1 hR2 hold hcs hvs hOb hOb2 hz0 hzc hW1e hkk hik hG hcl hvl hsz hRl hR1l hdl h1c h1v hzs hzb hi0 hbw hvw
 have hci:¬(c=i):=by omega
 have hGi:¬(G=i):=by omega
 have hGim:¬(G=i+1):=by omega
 have hw1:IntKind.i64.wrap ((i:Int)+1)=(i:Int)+1:=by rw [IntKind.wrap_i64];omega
 have hb1:(0:Int)<=(i:Int)+1:=by omega
 have hin:i<=n:=by omega
 have htn:((i:Int)+1).toNat=i+1:=by omega
 have hb3:(i:Int)<=(n:Int):=by omega
 rw [<-hW1] at hrz
 have mixed:Tryz.prog.follows .mixedOrders=true:=by kernel_rfl
 go_enter Tryz.func102,Tryz.ntmps102
 go_wp2_with (first
  | (at_builtin;refine Lib.wpList_append_run _ rfl _ _ _ _ rfl _ _ rfl rfl _ _ (hrz _) ?_)
  | (at_builtin;refine wpList_copy_runI _ rfl _ _ 31 31 rfl _ _ rfl rfl (hA _ rfl _ _) ?_))
 go_region_law_o (refine step_copy_runI rfl _ _ 31 31 rfl (.slice (some ⟨w.heap.size,(i+1)*2,none⟩) (n+1-(i+1)) (G-(i+1))) (.slice (some ⟨b,i*2,none⟩) (n-i) (c-i)) (by simp [Act.eval,Act.put]) (by simp [Act.eval,Act.put]) (hB _ (by rw [hW2,hW1];rfl) 3 (G-(i+1)) (c-i)) ?_)
 go_wp2
 go_ret
 exact ⟨rfl,rfl⟩
theorem Ze8 (b n c i vb vo vc:Nat) (cs vs:List Value) (w:World) (hsz:(Tryz.prog.info? 35).map (·.size)=some 2) (cur:Array Value) (hcur:w.heap[b]?=some (.cells cur 35 (0,0))) (hcc:cur.size=c*2)
  (hi:i<n) (hroom:n+1<=c) (hc63:c<=9223372036854775807) (hn:n<=1048576) (hcl:cs.length=n*2) (hvl:vs.length=2) (hvb:vb≠b)
  (hcs:∀j v,cs[j]?=some v->w.cell? ⟨b,j,none⟩=some v) (hvs:∀j v,vs[j]?=some v->w.cell? ⟨vb,vo+j,none⟩=some v) (h1c:∀v∈cs,v.oneCell'=true) (h1v:∀v∈vs,v.oneCell'=true)
  (tA:TypeId) (kA:Nat) (hsa:w.shape? vb=some (tA,kA+1)) (R1 R2:Array Value)
  (hR1:R1=(cur.toList.take ((i+1)*2)++cs.drop (i*2)++cur.toList.drop ((i+1)*2+(cs.drop (i*2)).length)).toArray) (hR2:R2=(R1.toList.take (i*2)++vs++R1.toList.drop (i*2+2)).toArray) :
  Calls Tryz.prog 102 #[.slice (some ⟨b,0,none⟩) n c,.int .i64 i,.slice (some ⟨vb,vo,none⟩) 1 vc] w fun e w' =>
   e=.returned (.slice (some ⟨b,0,none⟩) (n+1) c)/\w'=(w.drew.setRow b R1).setRow b R2:=by
 have hz1:¬((i:Int)=(n:Int)):=by omega
 have hz3:¬((c:Int)<(n:Int)+1):=by omega
 have hdl:(cs.drop (i*2)).length=(n-i)*2:=by rw [List.length_drop,hcl];omega
 have hsb:w.shape? b=some (35,(c*2-1)+1):=by unfold World.shape?;rw [hcur];simp [hcc];omega
 have hfb:∀j,w.frozen? ⟨b,j,none⟩=false:=fun j=>by simp [World.frozen?,hcur]
 have hov:∀lb cb,(callFunc 141 #[.slice (some ⟨vb,vo,none⟩) 1 vc,.slice (some ⟨b,(i+1)*2,none⟩) lb cb]).run Tryz.prog w=.ok (.value (.bool false)) w:=fun lb cb=>by
  rw [run_callFunc_extern Tryz.func141 (by kernel_rfl) (by kernel_rfl) (by kernel_rfl) (e:=Extern.SlicesOverlaps.overlaps #[31,31] #[4]) (by kernel_rfl),
   Ze6 w 31 4 35 Tryz.underlying31 2 Tryz.sizeOf35 ⟨vb,vo,none⟩ ⟨b,(i+1)*2,none⟩ 1 vc lb cb hvb tA 35 kA (c*2-1) hsa hsb (hfb _) (hfb _)]
  rfl
 have hceq:∀W:World,W.heap=w.heap->∀x,W.cell? x=w.cell? x:=fun W hW x=>by unfold World.cell?;rw [hW]
 have hA:∀(W:World),W.heap=w.heap->∀ty dc sc,(Builtin.copy_ #[31,31] ty #[.slice (some ⟨b,(i+1)*2,none⟩) (n+1-(i+1)) dc,.slice (some ⟨b,i*2,none⟩) (n+1-i) sc]).run Tryz.prog W=.ok (goInt (n-i:Nat)) (W.setRow b R1):=fun W hW ty dc sc=>by
  have:=Jp (P:=Tryz.prog) W 31 31 ty 35 b ((i+1)*2) (n+1-(i+1)) dc ⟨b,i*2,none⟩ (n+1-i) sc 2 (n-i) cur 35 (cs.drop (i*2)) Tryz.underlying31 hsz (by simp only [Nat.min_def];split<;>omega) (by rw [hW];exact hcur) hdl
   (fun j v hj=>by rw [Addr.add_lit,hceq W hW];exact hcs _ v (by rwa [List.getElem?_drop] at hj)) (by omega) (fun v hv=>h1c v (List.mem_of_mem_drop hv))
  rw [<-hR1] at this
  exact this
 obtain ⟨W1,hW1⟩:∃W1,W1=w.drew.setRow b R1:=⟨_,rfl⟩
 have hW1h:W1.heap[b]?=some (.cells R1 35 (0,0)):=by rw [hW1];exact setRow_heap _ _ _ _ _ _ hcur
 have hR1l:R1.size=c*2:=by rw [hR1];simp;omega
 have hOv:∀j v,vs[j]?=some v->W1.cell? ⟨vb,vo+j,none⟩=some v:=fun j v h=>by
  have h1:=hvs j v h
  rw [hW1]
  unfold World.cell? at h1 ⊢
  rw [setRow_other _ _ _ _ hvb]
  exact h1
 have hceq1:∀W:World,W.heap=W1.heap->∀x,W.cell? x=W1.cell? x:=fun W hW x=>by unfold World.cell?;rw [hW]
 have hB:∀(W:World),W.heap=W1.heap->∀ty dc,(Builtin.copy_ #[31,31] ty #[.slice (some ⟨b,i*2,none⟩) (n+1-i) dc,.slice (some ⟨vb,vo,none⟩) 1 vc]).run Tryz.prog W=.ok (goInt 1) (W.setRow b R2):=fun W hW ty dc=>by
  have:=Jp (P:=Tryz.prog) W 31 31 ty 35 b (i*2) (n+1-i) dc ⟨vb,vo,none⟩ 1 vc 2 1 R1 35 vs Tryz.underlying31 hsz (by simp only [Nat.min_def];split<;>omega) (by rw [hW];exact hW1h) (by omega)
   (fun j v hj=>by rw [Addr.add_lit,hceq1 W hW];exact hOv j v hj) (by omega) h1v
  rw [hvl,<-hR2] at this
  exact this
 have hci:¬(c=i):=by omega
 have hcim:¬(c=i+1):=by omega
 have hw1:IntKind.i64.wrap ((i:Int)+1)=(i:Int)+1:=by rw [IntKind.wrap_i64];omega
 have hb1:(0:Int)<=(i:Int)+1:=by omega
 have hin:i<=n:=by omega
 have hin1:i<=n+1:=by omega
 have htn:((i:Int)+1).toNat=i+1:=by omega
 have hb3:(i:Int)<=(n:Int):=by omega
 have hb5:(i:Int)<=(n:Int)+1:=by omega
 clear hR1 hR2 hcs hvs hOv hsz hcl hvl hdl h1c h1v hcur hcc hsa hsb hfb hR1l
 have mixed:Tryz.prog.follows .mixedOrders=true:=by kernel_rfl
 go_enter Tryz.func102,Tryz.ntmps102
 go_wp2_with (simp only [hov])
 go_region_law_o (refine step_copy_runI rfl _ _ 31 31 rfl (.slice (some ⟨b,(i+1)*2,none⟩) (n+1-(i+1)) (c-(i+1))) (.slice (some ⟨b,i*2,none⟩) (n+1-i) (c-i)) (by simp [Act.eval,Act.put]) (by simp [Act.eval,Act.put]) (hA _ (by rfl) 3 (c-(i+1)) (c-i)) ?_)
 go_wp2_with (at_builtin;refine wpList_copy_runI _ rfl _ _ 31 31 rfl _ _ rfl rfl (hB _ (by rw [hW1];rfl) _ _) ?_)
 go_ret
 exact ⟨rfl,rfl⟩
end Go.Proofs.YtcnbiofjmioaiaaGreat.Pv
namespace Go.Proofs
open Go.Shelf
def Tryz.growStop_ren:Go.Shelf.Ren:=⟨fun | 4=>277 | n=>n,fun | 22=>31 | 25=>35 | 3=>3 | 4=>4 | 9=>9 | 20=>20 | 0=>0 | 2=>3 | n=>n,fun | n=>n⟩
theorem Tryz.growStop:Go.Proofs.Lays8.n4 Tryz.prog Tryz.growStop_ren:={
 mixed:=by kernel_rfl
 f4:=⟨Tryz.f277.name,by decide,Tryz.func277.trans (congrArg some (by kernel_rfl))⟩
 t0:=Tryz.underlying0
 a0:=Tryz.isAgg0
 z0:=Tryz.sizeOf0
 v0:=Tryz.zeroValue0
 t3:=Tryz.underlying3
 a3:=Tryz.isAgg3
 z3:=Tryz.sizeOf3
 v3:=Tryz.zeroValue3
 t4:=Tryz.underlying4
 a4:=Tryz.isAgg4
 z4:=Tryz.sizeOf4
 v4:=Tryz.zeroValue4
 t9:=Tryz.underlying9
 a9:=Tryz.isAgg9
 z9:=Tryz.sizeOf9
 v9:=Tryz.zeroValue9
 t20:=Tryz.underlying20
 a20:=Tryz.isAgg20
 z20:=Tryz.sizeOf20
 v20:=Tryz.zeroValue20
 t22:=Tryz.underlying31
 a22:=Tryz.isAgg31
 z22:=Tryz.sizeOf31
 v22:=Tryz.zeroValue31 }
open Go.RowKit Go.Lib in
theorem Tryz.slices_Grow_stop (i0:TypeInfo) (z:Value) (hi0:Tryz.prog.info? (35)=some i0) (hz0:i0.zero=some z) (hs0:0<i0.size) (n:Nat) (w:World) (hroom:0<n) (hbig:(0+n)*i0.bytes<=140737488355328) (h63:0+n<=4611686018427387904) :
  Calls Tryz.prog 277 #[.slice none 0 0,.int .i64 n] w fun e w' =>
   e=.returned (.slice (some ⟨w.heap.size,0,none⟩) 0 (grownCap w (0+n) 0 (35))) /\
   w'=w.drew.alloc (.cells ((#[]:Array Value)++Builtin.zeroCells z.cells (0+n-0)++Builtin.zeroCells z.cells (grownCap w (0+n) 0 (35)-(0+n))) (35)):=Any8.slices_Grow_grow Tryz.growStop i0 z hi0 hz0 hs0 none 0 0 n [] w (by omega) (by omega) hbig h63 (by simp) (fun _=>rfl) (fun a h=>by cases h)
end Go.Proofs
namespace Go.Proofs.YtcnbiofjmioaiaaGreat.Hp
structure Str {α:Type} (lt:α->α->Bool):Prop where
 irr:∀a,lt a a=false
 tr:∀a b c,lt a b=true->lt b c=true->lt a c=true
 tot:∀a b,lt a b=false->lt b a=false->a=b
section
variable {α:Type}
def il [DecidableEq α] (lt:α->α->Bool) (a b:Int × α):Bool:=if a.2=b.2 then decide (a.1<b.1) else lt a.2 b.2
theorem uC [DecidableEq α] {lt:α->α->Bool} (h:Str lt):Str (il lt):=by
 refine ⟨fun a=>by simp [il],fun a b c h1 h2=>?_,fun a b h1 h2=>?_⟩
 ·unfold il at *
  by_cases e1:a.2=b.2
  ·rw [if_pos e1] at h1
   by_cases e2:b.2=c.2
   ·rw [if_pos e2] at h2;rw [if_pos (e1.trans e2)];simp at *;omega
   ·rw [if_neg e2] at h2;rw [if_neg (by rw [e1];exact e2),e1];exact h2
  ·rw [if_neg e1] at h1
   by_cases e2:b.2=c.2
   ·rw [if_neg (by rw [<-e2];exact e1),<-e2];exact h1
   ·rw [if_neg e2] at h2
    have:=h.tr _ _ _ h1 h2
    by_cases e3:a.2=c.2
    ·rw [e3,h.irr] at this;cases this
    ·rw [if_neg e3];exact this
 ·unfold il at *
  by_cases e1:a.2=b.2
  ·rw [if_pos e1] at h1;rw [if_pos e1.symm] at h2
   simp at h1 h2
   exact Prod.ext (by omega) e1
  ·rw [if_neg e1] at h1;rw [if_neg (fun e=>e1 e.symm)] at h2
   exact absurd (h.tot _ _ h1 h2) e1
abbrev zI (α:Type):=List (Int × α)
def zy [Inhabited α] (l:zI α) (i:Nat):Int × α:=l.getD i default
def swp [Inhabited α] (l:zI α) (i j:Nat):zI α:=(l.set i (zy l j)).set j (zy l i)
theorem wU [Inhabited α] (l:zI α) (i j:Nat):(swp l i j).length=l.length:=by simp [swp]
theorem ZaL [Inhabited α] (m:zI α) (a b:Nat) (x:Int × α) (ha:a<m.length):zy (m.set a x) b=if b=a then x else zy m b:=by
 unfold zy
 rw [List.getD_eq_getElem?_getD,List.getD_eq_getElem?_getD,List.getElem?_set]
 by_cases e:a=b
 ·subst e;simp [ha]
 ·rw [if_neg e,if_neg (fun h=>e h.symm)]
theorem Qk [Inhabited α] (l:zI α) (i j k:Nat) (hi:i<l.length) (hj:j<l.length):zy (swp l i j) k=if k=j then zy l i else if k=i then zy l j else zy l k:=by
 unfold swp
 rw [ZaL _ j k _ (by simpa using hj),ZaL _ i k _ hi]
theorem Jq [Inhabited α] (l:zI α) (i j:Nat) (hi:i<l.length) (hj:j<l.length):(swp l i j).Perm l:=by
 have h:=Array.swap_perm (xs:=l.toArray) (i:=i) (j:=j) (by simpa using hi) (by simpa using hj)
 have h2:=Array.perm_iff_toList_perm.1 h
 have e:(l.toArray.swap i j (by simpa using hi) (by simpa using hj)).toList=swp l i j:=by
  apply List.ext_getElem?
  intro k
  simp only [Array.getElem?_toList,Array.getElem?_swap,List.size_toArray,List.getElem?_toArray,swp,zy,List.getElem?_set,List.length_set]
  by_cases h1:j=k
  ·subst h1;simp [hi,hj]
  ·by_cases h2:i=k
   ·subst h2;simp [hi,hj,h1]
   ·simp [h1,h2]
 rw [e] at h2
 simpa using h2
variable [DecidableEq α] [Inhabited α]
def zV (k:Nat):Nat:=(k-1) / 2
def vi (lt:α->α->Bool) (l:zI α) (n:Nat):Prop:=∀k,0<k->k<n->il lt (zy l k) (zy l (zV k))=false
def xu (lt:α->α->Bool):Nat->zI α->Nat->zI α
 | 0,l,_=>l
 | f+1,l,j=>if zV j=j\/il lt (zy l j) (zy l (zV j))=false then l else xu lt f (swp l (zV j) j) (zV j)
def qU (lt:α->α->Bool) (l:zI α) (i n:Nat):Nat:=if 2*i+2<n/\il lt (zy l (2*i+2)) (zy l (2*i+1))=true then 2*i+2 else 2*i+1
def yR (lt:α->α->Bool):Nat->zI α->Nat->Nat->zI α × Nat
 | 0,l,i,_=>(l,i)
 | f+1,l,i,n =>
  if n<=2*i+1 then (l,i)
  else if il lt (zy l (qU lt l i n)) (zy l i)=false then (l,i)
  else yR lt f (swp l i (qU lt l i n)) (qU lt l i n) n
theorem wC {k:Nat} (h:0<k):zV k<k:=by unfold zV;omega
variable {lt:α->α->Bool}
theorem Ql {β:Type} [DecidableEq β] {lt:β->β->Bool} (h:Str lt) {a b c:Int × β} (h1:il lt a b=false) (h2:il lt b c=false):il lt a c=false:=by
 have s:=uC h
 cases hq:il lt a c with
 | false=>rfl
 | true =>
  cases hb:il lt c b with
  | true=>have:=s.tr _ _ _ hq hb;rw [h1] at this;cases this
  | false=>have:=s.tot _ _ hb h2;rw [this] at hq;rw [h1] at hq;cases hq
theorem Jr {β:Type} [DecidableEq β] {lt:β->β->Bool} (h:Str lt) {a b:Int × β} (h1:il lt a b=true):il lt b a=false:=by
 have s:=uC h
 cases hq:il lt b a with
 | false=>rfl
 | true=>have:=s.tr _ _ _ h1 hq;rw [s.irr] at this;cases this
structure UpInv (lt:α->α->Bool) (l:zI α) (n j:Nat):Prop where
 rest:∀k,0<k->k<n->k≠j->il lt (zy l k) (zy l (zV k))=false
 kids:∀k,0<k->k<n->zV k=j->0<j->il lt (zy l k) (zy l (zV j))=false
theorem ZaM (h:Str lt):∀(f:Nat) (l:zI α) (n j:Nat),n<=l.length->j<n->j<f->UpInv lt l n j->vi lt (xu lt f l j) n/\(xu lt f l j).Perm l/\(xu lt f l j).length=l.length/\∀k,n<=k->zy (xu lt f l j) k=zy l k:=by
 intro f
 induction f with
 | zero=>intro l n j _ _ hf;omega
 | succ f ih =>
  intro l n j hn hj hf inv
  unfold xu
  split
  ·rename_i hc
   refine ⟨fun k hk hkn=>?_,.refl _,rfl,fun _ _=>rfl⟩
   by_cases hkj:k=j
   ·subst hkj
    rcases hc with hc | hc
    ·have:=wC hk;omega
    ·exact hc
   ·exact inv.rest k hk hkn hkj
  ·rename_i hc
   have hc1:zV j≠j:=fun e=>hc (.inl e)
   have hc2:il lt (zy l j) (zy l (zV j))=true:=by
    cases hq:il lt (zy l j) (zy l (zV j)) with
    | true=>rfl
    | false=>exact absurd (.inr hq) hc
   have hj0:0<j:=by
    rcases Nat.eq_zero_or_pos j with e | e
    ·subst e;exact absurd rfl hc1
    ·exact e
   have hp:=wC hj0
   have hpl:zV j<l.length:=by omega
   have hjl:j<l.length:=by omega
   have at':=fun k=>Qk l (zV j) j k hpl hjl
   have:=ih (swp l (zV j) j) n (zV j) (by rw [wU];exact hn) (by omega) (by omega) ⟨fun k hk hkn hkp=>?_,fun k hk hkn hkp hp0=>?_⟩
   ·obtain ⟨q1,q2,q3,q4⟩:=this
    refine ⟨q1,q2.trans (Jq l _ _ hpl hjl),q3.trans (wU _ _ _),fun k hk=>?_⟩
    rw [q4 k hk,at' k,if_neg (by omega),if_neg (by omega)]
   ·rw [at' k,at' (zV k)]
    by_cases k1:k=j
    ·subst k1
     rw [if_pos rfl,if_neg (by omega),if_pos rfl]
     exact Jr h hc2
    ·rw [if_neg k1,if_neg hkp]
     by_cases k2:zV k=j
     ·rw [if_pos k2];exact inv.kids k hk hkn k2 hj0
     ·rw [if_neg k2]
      by_cases k3:zV k=zV j
      ·rw [if_pos k3]
       have:=inv.rest k hk hkn k1
       rw [k3] at this
       exact Ql h this (Jr h hc2)
      ·rw [if_neg k3];exact inv.rest k hk hkn k1
   ·have hpp:=wC hp0
    rw [at' k,at' (zV (zV j)),if_neg (show zV (zV j)≠j by omega),if_neg (show zV (zV j)≠zV j by omega)]
    have hpar:=inv.rest (zV j) hp0 (by omega) (by omega)
    by_cases k1:k=j
    ·rw [if_pos k1];exact hpar
    ·rw [if_neg k1,if_neg (by have:=wC hk;omega)]
     have:=inv.rest k hk hkn k1
     rw [hkp] at this
     exact Ql h this hpar
structure DownInv (lt:α->α->Bool) (l:zI α) (n i:Nat):Prop where
 rest:∀k,0<k->k<n->zV k≠i->k≠i->il lt (zy l k) (zy l (zV k))=false
 kids:∀k,0<k->k<n->zV k=i->0<i->il lt (zy l k) (zy l (zV i))=false
theorem ZaN (h:Str lt) (l:zI α) (i n:Nat) (hi:2*i+1<n):zV (qU lt l i n)=i/\qU lt l i n<n/\0<qU lt l i n/\i<qU lt l i n/\∀k,0<k->k<n->zV k=i->il lt (zy l k) (zy l (qU lt l i n))=false:=by
 have s:=uC h
 unfold qU
 split
 ·rename_i hc
  refine ⟨by unfold zV;omega,hc.1,by omega,by omega,fun k hk hkn hp=>?_⟩
  have:k=2*i+1\/k=2*i+2:=by unfold zV at hp;omega
  rcases this with rfl | rfl
  ·exact Jr h hc.2
  ·exact s.irr _
 ·rename_i hc
  refine ⟨by unfold zV;omega,hi,by omega,by omega,fun k hk hkn hp=>?_⟩
  have:k=2*i+1\/k=2*i+2:=by unfold zV at hp;omega
  rcases this with rfl | rfl
  ·exact s.irr _
  ·cases hq:il lt (zy l (2*i+2)) (zy l (2*i+1)) with
   | false=>rfl
   | true=>exact absurd ⟨hkn,hq⟩ hc
theorem ZaO (h:Str lt):∀(f:Nat) (l:zI α) (n i:Nat),n<=l.length->i<n->n<=f+i->DownInv lt l n i ->
  (yR lt f l i n).1.Perm l/\(yR lt f l i n).1.length=l.length/\(∀k,n<=k->zy (yR lt f l i n).1 k=zy l k)/\i<=(yR lt f l i n).2/\(yR lt f l i n).2<n /\
  (i<(yR lt f l i n).2->vi lt (yR lt f l i n).1 n) /\
  ((yR lt f l i n).2=i->(yR lt f l i n).1=l/\∀k,0<k->k<n->k≠i->il lt (zy l k) (zy l (zV k))=false):=by
 intro f
 induction f with
 | zero=>intro l n i _ hi hf;omega
 | succ f ih =>
  intro l n i hn hi hf inv
  have stay:(∀k,0<k->k<n->zV k=i->il lt (zy l k) (zy l i)=false)->∀k,0<k->k<n->k≠i->il lt (zy l k) (zy l (zV k))=false:=by
   intro hk k k0 kn ki
   by_cases hp:zV k=i
   ·rw [hp];exact hk k k0 kn hp
   ·exact inv.rest k k0 kn hp ki
  unfold yR
  split
  ·rename_i hle
   refine ⟨.refl _,rfl,fun _ _=>rfl,Nat.le_refl _,hi,fun hlt=>by simp at hlt,fun _=>⟨rfl,stay fun k k0 kn hp=>?_⟩⟩
   unfold zV at hp;omega
  ·rename_i hle
   obtain ⟨c1,c2,c3,c4,c5⟩:=ZaN h l i n (by omega)
   split
   ·rename_i hc
    exact ⟨.refl _,rfl,fun _ _=>rfl,Nat.le_refl _,hi,fun hlt=>by simp at hlt,fun _=>⟨rfl,stay fun k k0 kn hp=>Ql h (c5 k k0 kn hp) hc⟩⟩
   ·rename_i hc
    have hc':il lt (zy l (qU lt l i n)) (zy l i)=true:=by
     cases hq:il lt (zy l (qU lt l i n)) (zy l i) with
     | true=>rfl
     | false=>exact absurd hq hc
    generalize hj:qU lt l i n=j at *
    have hil:i<l.length:=by omega
    have hjl:j<l.length:=by omega
    have at':=fun k=>Qk l i j k hil hjl
    have inv':DownInv lt (swp l i j) n j:=by
     refine ⟨fun k k0 kn kp kj=>?_,fun k k0 kn kp j0=>?_⟩
     ·rw [at' k,at' (zV k),if_neg kj,if_neg kp]
      by_cases k1:k=i
      ·subst k1
       rw [if_pos rfl]
       have hpk:=wC k0
       rw [if_neg (by omega)]
       exact inv.kids j c3 c2 c1 k0
      ·rw [if_neg k1]
       by_cases k2:zV k=i
       ·rw [if_pos k2];exact c5 k k0 kn k2
       ·rw [if_neg k2];exact inv.rest k k0 kn k2 k1
     ·rw [at' k,at' (zV j),c1,if_neg (show i≠j by omega),if_pos rfl]
      have hpk:=wC k0
      rw [if_neg (by omega),if_neg (by omega)]
      have:=inv.rest k k0 kn (by omega) (by omega)
      rw [kp] at this
      exact this
    obtain ⟨q1,q2,q3,q4,q5,q6,q7⟩:=ih (swp l i j) n j (by rw [wU];exact hn) c2 (by omega) inv'
    refine ⟨q1.trans (Jq l _ _ hil hjl),q2.trans (wU _ _ _),fun k hk=>by rw [q3 k hk,at' k,if_neg (by omega),if_neg (by omega)],by omega,q5,fun hlt=>?_,fun he=>by omega⟩
    by_cases hjq:j<(yR lt f (swp l i j) j n).2
    ·exact q6 hjq
    ·obtain ⟨r1,r2⟩:=q7 (by omega)
     rw [r1]
     intro k k0 kn
     by_cases kj:k=j
     ·subst kj
      rw [at' k,at' (zV k),c1,if_pos rfl,if_neg (show i≠k by omega),if_pos rfl]
      exact Jr h hc'
     ·exact r2 k k0 kn kj
theorem Ze9:∀(f f':Nat) (l:zI α) (j:Nat),j<f->j<f'->xu lt f l j=xu lt f' l j:=by
 intro f
 induction f with
 | zero=>intro f' l j h;omega
 | succ f ih =>
  intro f' l j h1 h2
  cases f' with
  | zero=>omega
  | succ f' =>
   unfold xu
   by_cases hc:zV j=j
   ·rw [if_pos (.inl hc),if_pos (.inl hc)]
   ·have:zV j<j:=by unfold zV at *;omega
    rw [ih f' _ _ (by omega) (by omega)]
theorem Zfa (l:zI α) (i n:Nat):i<qU lt l i n:=by unfold qU;split<;>omega
theorem Zfb:∀(f f':Nat) (l:zI α) (i n:Nat),n<=f+i->n<=f'+i->yR lt f l i n=yR lt f' l i n:=by
 intro f
 induction f with
 | zero =>
  intro f' l i n h1 h2
  cases f' with
  | zero=>rfl
  | succ f'=>unfold yR;rw [if_pos (by omega)]
 | succ f ih =>
  intro f' l i n h1 h2
  cases f' with
  | zero=>unfold yR;rw [if_pos (by omega)]
  | succ f' =>
   have:=Zfa (lt:=lt) l i n
   unfold yR
   rw [ih f' _ _ _ (by omega) (by omega)]
end
end Go.Proofs.YtcnbiofjmioaiaaGreat.Hp
namespace Go.Proofs.YtcnbiofjmioaiaaGreat.Pv
open Go
inductive PV where
 | junk
 | sc (v:Value)
 | agg (cs:List PV)
 | tup (vs:List PV)
 | lst (n:Nat) (cs:List PV)
 | ip (cs:List PV)
 | ptr (o ver off:Nat)
 | sl (o ver sz off n:Nat)
 | fn (f:Fn) (first cap:List PV)
 | ifc (t:TypeId) (v:PV)
 | mp (o ver:Nat)
 | nl (low sz n:Nat) (cs:List PV)
inductive Ob where
 | dead
 | cells (ver:Nat) (e:TypeId) (cs:List PV)
 | map (ver:Nat) (es:List (Value × PV))
abbrev Store:=Nat->Ob
def Ob.ver:Ob->Option Nat
 | .dead=>none
 | .cells v _ _=>some v
 | .map v _=>some v
def Store.set (S:Store) (o:Nat) (x:Ob):Store:=fun i=>if i=o then x else S i
theorem Store.set_same (S:Store) (o:Nat) (x:Ob):S.set o x o=x:=by simp [Store.set]
theorem Store.set_other (S:Store) (o i:Nat) (x:Ob) (h:i≠o):S.set o x i=S i:=by simp [Store.set,h]
theorem Store.set_set (S:Store) (o:Nat) (x y:Ob):(S.set o x).set o y=S.set o y:=by
 funext i;simp only [Store.set];split<;>rfl
theorem Store.set_comm (S:Store) (o i:Nat) (x y:Ob) (h:i≠o):(S.set o x).set i y=(S.set i y).set o x:=by
 funext j;simp only [Store.set];split<;>split<;>simp_all
structure Ctx where
 loc:Nat->Option (Nat × Nat)
 next:Nat
 clock:Nat
def Ctx.M (C:Ctx) (S:Store) (b:Nat):Prop:=∃o k,S o≠.dead/\C.loc o=some (b,k)
def qV:Nat:=9223372036854775807
inductive Rel (C:Ctx) (S:Store) (w:World):PV->Value->Prop where
 | junk (v:Value):Rel C S w .junk v
 | sc (v:Value):Rel C S w (.sc v) v
 | agg {cs:List PV} {vs:Array Value} (hl:cs.length=vs.size) (h1:∀(i:Nat) (v:Value),vs[i]?=some v->v.oneCell'=true) (h:∀(i:Nat) (c:PV) (v:Value),cs[i]?=some c->vs[i]?=some v->Rel C S w c v):Rel C S w (.agg cs) (.agg vs)
 | tup {cs:List PV} {vs:Array Value} (hl:cs.length=vs.size) (h:∀(i:Nat) (c:PV) (v:Value),cs[i]?=some c->vs[i]?=some v->Rel C S w c v):Rel C S w (.tup cs) (.tuple vs)
 | lst0 {cap:Nat} {a:Option Addr}:Rel C S w (.lst 0 []) (.slice a 0 cap)
 | lst1 {n cap b o:Nat} {cs:List PV} {c:Array Value} {e:TypeId} {fz:Nat × Nat} (hn:n<=cap) (hm:n<=qV) (hb:w.heap[b]?=some (.cells c e fz)) (hM:¬C.M S b)
   (hs:cs≠[]->o+cs.length<=c.size) (h1:∀(i:Nat) (v:Value),i<cs.length->c[o+i]?=some v->v.oneCell'=true) (h:∀(i:Nat) (p:PV) (v:Value),cs[i]?=some p->c[o+i]?=some v->Rel C S w p v):Rel C S w (.lst n cs) (.slice (some ⟨b,o,none⟩) n cap)
 | ip {b o:Nat} {cs:List PV} {c:Array Value} {e:TypeId} {fz:Nat × Nat} (hb:w.heap[b]?=some (.cells c e fz)) (hM:¬C.M S b)
   (hs:cs≠[]->o+cs.length<=c.size) (h1:∀(i:Nat) (v:Value),i<cs.length->c[o+i]?=some v->v.oneCell'=true) (h:∀(i:Nat) (p:PV) (v:Value),cs[i]?=some p->c[o+i]?=some v->Rel C S w p v):Rel C S w (.ip cs) (.pointer (some ⟨b,o,none⟩))
 | ptr {o ver off:Nat} {v:Value} (h1:∃a,v=.pointer (some a)) (ho:o<C.next/\ver<C.clock) (h:∀v0,(S o).ver=some v0->ver<=v0/\(ver=v0->∃b k,C.loc o=some (b,k)/\v=.pointer (some ⟨b,off,none⟩))):Rel C S w (.ptr o ver off) v
 | sl {o ver sz off n:Nat} {v:Value} (h1:∃a cap,v=.slice a n cap/\n<=cap/\n<=qV/\cap<=maxLen/\(n≠0->∃b f,a=some ⟨b,f,none⟩)) (ho:o<C.next/\ver<C.clock) (h:∀v0,(S o).ver=some v0->ver<=v0/\(ver=v0 ->
   (C.loc o=none/\n=0/\off=0/\v=.slice none 0 0)\/∃b k a cap,C.loc o=some (b,k)/\v=.slice a n cap/\(off=0->a=some ⟨b,0,none⟩/\cap*sz=k)/\(n≠0->a=some ⟨b,off,none⟩))) :
   Rel C S w (.sl o ver sz off n) v
 | nl0 {low sz cap:Nat} {a:Option Addr}:Rel C S w (.nl low sz 0 []) (.slice a 0 cap)
 | nl {low sz n cap b:Nat} {cs:List PV} {c:Array Value} {e:TypeId} (hn:0<n/\n<=cap/\n<=qV/\cap<=maxLen) (hb:w.heap[b]?=some (.cells c e (0,0))) (hM:¬C.M S b) (hl:low<=b/\cs.length=n*sz/\cap*sz=c.size)
   (h1:∀(i:Nat) (v:Value),i<cs.length->c[i]?=some v->v.oneCell'=true) (h:∀(i:Nat) (p:PV) (v:Value),cs[i]?=some p->c[i]?=some v->Rel C S w p v):Rel C S w (.nl low sz n cs) (.slice (some ⟨b,0,none⟩) n cap)
 | fn {f:Fn} {fs cs:List PV} {fv cv:Array Value} (hf:fs.length=fv.size) (hc:cs.length=cv.size) (h:∀(i:Nat) (c:PV) (v:Value),fs[i]?=some c->fv[i]?=some v->Rel C S w c v)
   (h':∀(i:Nat) (c:PV) (v:Value),cs[i]?=some c->cv[i]?=some v->Rel C S w c v):Rel C S w (.fn f fs cs) (.func f fv cv)
 | ifc {t:TypeId} {p:PV} {v:Value} (h:Rel C S w p v):Rel C S w (.ifc t p) (.iface t v)
 | mp {o ver:Nat} {v:Value} (h1:∃b,v=.map (some b)) (ho:o<C.next/\ver<C.clock) (h:∀v0,(S o).ver=some v0->ver<=v0/\(ver=v0->∃b k,C.loc o=some (b,k)/\v=.map (some b))):Rel C S w (.mp o ver) v
structure Sim (C:Ctx) (S:Store) (w:World):Prop where
 lt:∀o,S o≠.dead->o<C.next
 clk:∀o v,(S o).ver=some v->v<C.clock
 dist:∀o o' b k k',S o≠.dead->S o'≠.dead->C.loc o=some (b,k)->C.loc o'=some (b,k')->o=o'
 cells:∀o ver e cs,S o=.cells ver e cs->(C.loc o=none/\cs=[])\/∃(b k:Nat) (c:Array Value),C.loc o=some (b,k)/\w.heap[b]?=some (.cells c e (0,0))/\c.size=k/\cs.length<=k /\
  (∀(i:Nat) (v:Value),i<cs.length->c[i]?=some v->v.oneCell'=true)/\∀(i:Nat) (p:PV) (v:Value),cs[i]?=some p->c[i]?=some v->Rel C S w p v
 maps:∀o ver es,S o=.map ver es->∃(b k:Nat) (ms:Array MapEntry) (cl:Nat),C.loc o=some (b,k)/\w.heap[b]?=some (.map ms cl)/\es.length=ms.size /\
  (∀(i:Nat) (e:Value × PV) (m:MapEntry),es[i]?=some e->ms[i]?=some m->m.key=e.1/\Rel C S w e.2 m.val)
structure Step (C:Ctx) (S:Store) (w:World) (C':Ctx) (S':Store) (w':World):Prop where
 os:w'.os=w.os
 tape:w'.tape=w.tape/\w.drawn<=w'.drawn
 output:w'.output=w.output
 size:w.heap.size<=w'.heap.size
 next:C.next<=C'.next
 clock:C.clock<=C'.clock
 blocks:∀b,b<w.heap.size->¬C.M S b->w'.heap[b]?=w.heap[b]?/\¬C'.M S' b
 vers:∀o v1,(S' o).ver=some v1->(C.next<=o\/C.clock<=v1)\/∃v0,(S o).ver=some v0/\v0<=v1/\(v0=v1->C'.loc o=C.loc o)
theorem yW {w:World} {b:Nat} {o:Obj} (h:w.heap[b]?=some o):b<w.heap.size:=(Array.getElem?_eq_some_iff.1 h).1
theorem Step.refl (C:Ctx) (S:Store) (w:World):Step C S w C S w :=
 ⟨rfl,⟨rfl,Nat.le_refl _⟩,rfl,Nat.le_refl _,Nat.le_refl _,Nat.le_refl _,fun _ _ h=>⟨rfl,h⟩,fun _ v1 h=>.inr ⟨v1,h,Nat.le_refl _,fun _=>rfl⟩⟩
theorem Step.trans {C C' C'':Ctx} {S S' S'':Store} {w w' w'':World} (h:Step C S w C' S' w') (k:Step C' S' w' C'' S'' w''):Step C S w C'' S'' w'' :=
 ⟨k.os.trans h.os,⟨k.tape.1.trans h.tape.1,Nat.le_trans h.tape.2 k.tape.2⟩,k.output.trans h.output,Nat.le_trans h.size k.size,Nat.le_trans h.next k.next,Nat.le_trans h.clock k.clock,
  fun b hb hM=>by
   obtain ⟨h1,h2⟩:=h.blocks b hb hM
   obtain ⟨k1,k2⟩:=k.blocks b (Nat.lt_of_lt_of_le hb h.size) h2
   exact ⟨k1.trans h1,k2⟩,
  fun o v1 hv=>by
   have hn:=h.next
   have hk:=h.clock
   rcases k.vers o v1 hv with q | ⟨v0,a,b,c⟩
   ·exact .inl (q.imp (Nat.le_trans hn) (Nat.le_trans hk))
   ·rcases h.vers o v0 a with q | ⟨u,a',b',c'⟩
    ·exact .inl (q.imp id (fun x=>Nat.le_trans x b))
    ·exact .inr ⟨u,a',Nat.le_trans b' b,fun e=>(c (by omega)).trans (c' (by omega))⟩⟩
theorem Rel.mono {C C':Ctx} {S S':Store} {w w':World} (st:Step C S w C' S' w') {p:PV} {v:Value} (h:Rel C S w p v):Rel C' S' w' p v:=by
 induction h with
 | junk v=>exact .junk v
 | sc v=>exact .sc v
 | agg hl h1 _ ih=>exact .agg hl h1 ih
 | tup hl _ ih=>exact .tup hl ih
 | lst0=>exact .lst0
 | lst1 hn hm hb hM hs h1 _ ih =>
  obtain ⟨k1,k2⟩:=st.blocks _ (yW hb) hM
  exact .lst1 hn hm (k1.trans hb) k2 hs h1 ih
 | ip hb hM hs h1 _ ih =>
  obtain ⟨k1,k2⟩:=st.blocks _ (yW hb) hM
  exact .ip (k1.trans hb) k2 hs h1 ih
 | nl0=>exact .nl0
 | nl hn hb hM hl h1 _ ih =>
  obtain ⟨k1,k2⟩:=st.blocks _ (yW hb) hM
  exact .nl hn (k1.trans hb) k2 hl h1 ih
 | ptr h1 ho h =>
  refine .ptr h1 ⟨Nat.lt_of_lt_of_le ho.1 st.next,Nat.lt_of_lt_of_le ho.2 st.clock⟩ fun v1 hv=>?_
  rcases st.vers _ v1 hv with q | ⟨v0,a,b,c⟩
  ·exact ⟨by omega,fun _=>by omega⟩
  obtain ⟨d,e⟩:=h v0 a
  refine ⟨by omega,fun q=>?_⟩
  obtain ⟨bb,k,x,y⟩:=e (by omega)
  exact ⟨bb,k,(c (by omega)).trans x,y⟩
 | sl h1 ho h =>
  refine .sl h1 ⟨Nat.lt_of_lt_of_le ho.1 st.next,Nat.lt_of_lt_of_le ho.2 st.clock⟩ fun v1 hv=>?_
  rcases st.vers _ v1 hv with q | ⟨v0,a,b,c⟩
  ·exact ⟨by omega,fun _=>by omega⟩
  obtain ⟨d,e⟩:=h v0 a
  refine ⟨by omega,fun q=>?_⟩
  rw [c (by omega)]
  exact e (by omega)
 | fn hf hc _ _ ih ih'=>exact .fn hf hc ih ih'
 | ifc _ ih=>exact .ifc ih
 | mp h1 ho h =>
  refine .mp h1 ⟨Nat.lt_of_lt_of_le ho.1 st.next,Nat.lt_of_lt_of_le ho.2 st.clock⟩ fun v1 hv=>?_
  rcases st.vers _ v1 hv with q | ⟨v0,a,b,c⟩
  ·exact ⟨by omega,fun _=>by omega⟩
  obtain ⟨d,e⟩:=h v0 a
  refine ⟨by omega,fun q=>?_⟩
  obtain ⟨bb,k,x,y⟩:=e (by omega)
  exact ⟨bb,k,(c (by omega)).trans x,y⟩
open Go
theorem Sim.M_lt {C:Ctx} {S:Store} {w:World} (h:Sim C S w) {b:Nat} (hM:C.M S b):b<w.heap.size:=by
 obtain ⟨o,k,ho,hl⟩:=hM
 cases hs:S o with
 | dead=>exact absurd hs ho
 | cells ver e cs =>
  rcases h.cells o ver e cs hs with ⟨hn,_⟩ | ⟨b',k',c,hl',hb,_⟩
  ·rw [hn] at hl;cases hl
  ·rw [hl'] at hl;cases hl;exact yW hb
 | map ver es =>
  obtain ⟨b',k',ms,cl,hl',hb,_⟩:=h.maps o _ es hs
  rw [hl'] at hl;cases hl;exact yW hb
theorem Sim.still {C:Ctx} {S:Store} {w w':World} (h:Sim C S w) (ho:w'.os=w.os) (ht:w'.tape=w.tape/\w.drawn<=w'.drawn) (hu:w'.output=w.output) (hz:w.heap.size<=w'.heap.size)
  (hb:∀b,b<w.heap.size->w'.heap[b]?=w.heap[b]?):Sim C S w'/\Step C S w C S w':=by
 have st:Step C S w C S w':=⟨ho,ht,hu,hz,Nat.le_refl _,Nat.le_refl _,fun b hlt hM=>⟨hb b hlt,hM⟩,fun _ v1 h=>.inr ⟨v1,h,Nat.le_refl _,fun _=>rfl⟩⟩
 refine ⟨⟨h.lt,h.clk,h.dist,?_,?_⟩,st⟩
 ·intro o ver e cs hs
  rcases h.cells o ver e cs hs with hn | ⟨b,k,c,h1,h2,h3,h4,h5,h6⟩
  ·exact .inl hn
  ·exact .inr ⟨b,k,c,h1,(hb b (yW h2)).trans h2,h3,h4,h5,fun i p v hp hv=>(h6 i p v hp hv).mono st⟩
 ·intro o ver es hs
  obtain ⟨b,k,ms,cl,h1,h2,h3,h4⟩:=h.maps o ver es hs
  exact ⟨b,k,ms,cl,h1,(hb b (yW h2)).trans h2,h3,fun i e m he hm=>⟨(h4 i e m he hm).1,(h4 i e m he hm).2.mono st⟩⟩
theorem Sim.drew {C:Ctx} {S:Store} {w:World} (h:Sim C S w):Sim C S w.drew/\Step C S w C S w.drew :=
 h.still rfl ⟨rfl,Nat.le_succ _⟩ rfl (Nat.le_refl _) (fun _ _=>rfl)
theorem vj (w:World) (o:Obj) (b:Nat) (h:b<w.heap.size):(w.alloc o).heap[b]?=w.heap[b]?:=by
 show (w.heap.push o)[b]?=_
 rw [Array.getElem?_push,if_neg (by omega)]
theorem Zd (w:World) (o:Obj):(w.alloc o).heap[w.heap.size]?=some o:=by
 show (w.heap.push o)[w.heap.size]?=_
 rw [Array.getElem?_push,if_pos rfl]
theorem Sim.alloc {C:Ctx} {S:Store} {w:World} (h:Sim C S w) (o:Obj):Sim C S (w.alloc o)/\Step C S w C S (w.alloc o)/\¬C.M S w.heap.size:=by
 obtain ⟨h1,h2⟩:=h.still (w':=w.alloc o) rfl ⟨rfl,Nat.le_refl _⟩ rfl (by simp) (fun b hb=>vj w o b hb)
 exact ⟨h1,h2,fun hM=>by have:=h.M_lt hM;omega⟩
theorem Sim.free {C:Ctx} {S:Store} {w:World} (h:Sim C S w):S C.next=.dead:=by
 cases hs:S C.next with
 | dead=>rfl
 | cells v e cs=>have:=h.lt C.next (by rw [hs];simp);omega
 | map v es=>have:=h.lt C.next (by rw [hs];simp);omega
def Ctx.put (C:Ctx) (o ver:Nat) (x:Option (Nat × Nat)):Ctx:={ loc:=fun i=>if i=o then x else C.loc i,next:=max C.next (o+1),clock:=max C.clock (ver+1) }
structure Fresh (C:Ctx) (S:Store) (o ver:Nat):Prop where
 dead:S o=.dead
 new:C.next<=o\/C.clock<=ver
theorem Sim.fresh {C:Ctx} {S:Store} {w:World} (h:Sim C S w):Fresh C S C.next 0:=⟨h.free,.inl (Nat.le_refl _)⟩
theorem Sim.step_new {C:Ctx} {S:Store} {w w':World} {o ver:Nat} (hf:Fresh C S o ver) {x:Ob} (hx:x.ver=some ver) (l:Option (Nat × Nat)) (ho:w'.os=w.os) (ht:w'.tape=w.tape/\w.drawn<=w'.drawn) (hu:w'.output=w.output)
  (hz:w.heap.size<=w'.heap.size) (hb:∀b,b<w.heap.size->w'.heap[b]?=w.heap[b]?) (hl:∀b k,l=some (b,k)->w.heap.size<=b):Step C S w (C.put o ver l) (S.set o x) w':=by
 have hloc:∀i,i≠o->(C.put o ver l).loc i=C.loc i:=fun i hi=>by simp [Ctx.put,hi]
 have hlocn:(C.put o ver l).loc o=l:=by simp [Ctx.put]
 refine ⟨ho,ht,hu,hz,by simp only [Ctx.put];omega,by simp only [Ctx.put];omega,fun b hlt hM=>⟨hb b hlt,?_⟩,?_⟩
 ·rintro ⟨i,k,hi,hl'⟩
  by_cases hc:i=o
  ·subst hc;rw [hlocn] at hl';have:=hl b k hl';omega
  ·rw [hloc i hc] at hl';rw [Store.set_other _ _ _ _ hc] at hi;exact hM ⟨i,k,hi,hl'⟩
 ·intro i v1 hv
  by_cases hc:i=o
  ·subst hc;rw [Store.set_same,hx] at hv;cases hv;exact .inl hf.new
  ·rw [Store.set_other _ _ _ _ hc] at hv
   exact .inr ⟨v1,hv,Nat.le_refl _,fun _=>hloc i hc⟩
theorem Sim.object' {C:Ctx} {S:Store} {w:World} (h:Sim C S w) {o ver:Nat} (hf:Fresh C S o ver) (e:TypeId) (c:Array Value) (cs:List PV) (hl:cs.length<=c.size)
  (h1:∀(i:Nat) (v:Value),i<cs.length->c[i]?=some v->v.oneCell'=true)
  (hr:∀(i:Nat) (p:PV) (v:Value),cs[i]?=some p->c[i]?=some v->Rel C S w p v) :
  Sim (C.put o ver (some (w.heap.size,c.size))) (S.set o (.cells ver e cs)) (w.alloc (.cells c e)) /\
  Step C S w (C.put o ver (some (w.heap.size,c.size))) (S.set o (.cells ver e cs)) (w.alloc (.cells c e)):=by
 have hloc:∀i,i≠o->(C.put o ver (some (w.heap.size,c.size))).loc i=C.loc i:=fun i hi=>by simp [Ctx.put,hi]
 have hlocn:(C.put o ver (some (w.heap.size,c.size))).loc o=some (w.heap.size,c.size):=by simp [Ctx.put]
 have st:Step C S w (C.put o ver (some (w.heap.size,c.size))) (S.set o (.cells ver e cs)) (w.alloc (.cells c e)) :=
  Sim.step_new hf rfl _ rfl ⟨rfl,Nat.le_refl _⟩ rfl (by simp) (fun b hb=>vj w _ b hb) (fun b k hq=>by cases hq;exact Nat.le_refl _)
 refine ⟨⟨?_,?_,?_,?_,?_⟩,st⟩
 ·intro i hi
  by_cases hc:i=o
  ·subst hc;simp only [Ctx.put];omega
  ·rw [Store.set_other _ _ _ _ hc] at hi
   have:=h.lt i hi
   simp only [Ctx.put];omega
 ·intro i v hv
  by_cases hc:i=o
  ·subst hc;rw [Store.set_same] at hv;cases hv;simp only [Ctx.put];omega
  ·rw [Store.set_other _ _ _ _ hc] at hv
   have:=h.clk i v hv
   simp only [Ctx.put];omega
 ·intro i i' b k k' ho ho' hl hl'
  by_cases hc:i=o<;>by_cases hc':i'=o
  ·omega
  ·subst hc
   rw [hlocn] at hl;rw [hloc i' hc'] at hl';rw [Store.set_other _ _ _ _ hc'] at ho'
   have:=h.M_lt ⟨i',k',ho',hl'⟩
   simp only [Option.some.injEq,Prod.mk.injEq] at hl;omega
  ·subst hc'
   rw [hlocn] at hl';rw [hloc i hc] at hl;rw [Store.set_other _ _ _ _ hc] at ho
   have:=h.M_lt ⟨i,k,ho,hl⟩
   simp only [Option.some.injEq,Prod.mk.injEq] at hl';omega
  ·rw [hloc i hc] at hl;rw [hloc i' hc'] at hl';rw [Store.set_other _ _ _ _ hc] at ho;rw [Store.set_other _ _ _ _ hc'] at ho'
   exact h.dist i i' b k k' ho ho' hl hl'
 ·intro i ver' e' cs' hs
  by_cases hc:i=o
  ·subst hc
   rw [Store.set_same] at hs
   cases hs
   exact .inr ⟨w.heap.size,c.size,c,hlocn,Zd w _,rfl,hl,h1,fun i p v hp hv=>(hr i p v hp hv).mono st⟩
  ·rw [Store.set_other _ _ _ _ hc] at hs
   rcases h.cells i ver' e' cs' hs with hn | ⟨b,k,c',g1,g2,g3,g4,g5,g6⟩
   ·exact .inl ⟨(hloc i hc).trans hn.1,hn.2⟩
   ·exact .inr ⟨b,k,c',(hloc i hc).trans g1,(vj w _ b (yW g2)).trans g2,g3,g4,g5,fun i p v hp hv=>(g6 i p v hp hv).mono st⟩
 ·intro i ver' es hs
  by_cases hc:i=o
  ·subst hc;rw [Store.set_same] at hs;cases hs
  ·rw [Store.set_other _ _ _ _ hc] at hs
   obtain ⟨b,k,ms,cl,g1,g2,g3,g4⟩:=h.maps i ver' es hs
   exact ⟨b,k,ms,cl,(hloc i hc).trans g1,(vj w _ b (yW g2)).trans g2,g3,fun i e m he hm=>⟨(g4 i e m he hm).1,(g4 i e m he hm).2.mono st⟩⟩
theorem Sim.kill {C:Ctx} {S S':Store} {w:World} (h:Sim C S w) (hk:∀o,S' o=S o\/S' o=.dead):Sim C S' w/\Step C S w C S' w:=by
 have hd:∀o,S' o≠.dead->S' o=S o:=fun o ho=>(hk o).resolve_right ho
 have hM:∀b,C.M S' b->C.M S b:=fun b ⟨o,k,ho,hl⟩=>⟨o,k,by rw [<-hd o ho];exact ho,hl⟩
 have st:Step C S w C S' w:=by
  refine ⟨rfl,⟨rfl,Nat.le_refl _⟩,rfl,Nat.le_refl _,Nat.le_refl _,Nat.le_refl _,fun b _ hb=>⟨rfl,fun h=>hb (hM b h)⟩,fun o v1 hv=>?_⟩
  have:S' o≠.dead:=by intro e;rw [e] at hv;cases hv
  rw [hd o this] at hv
  exact .inr ⟨v1,hv,Nat.le_refl _,fun _=>rfl⟩
 refine ⟨⟨fun o ho=>h.lt o (by rw [<-hd o ho];exact ho),fun o v hv=>h.clk o v (by rw [<-hd o (by intro e;rw [e] at hv;cases hv)];exact hv),fun o o' b k k' ho ho'=>h.dist o o' b k k' (by rw [<-hd o ho];exact ho) (by rw [<-hd o' ho'];exact ho'),?_,?_⟩,st⟩
 ·intro o ver e cs hs
  have:=hd o (by rw [hs];simp)
  rcases h.cells o ver e cs (this ▸ hs) with hn | ⟨b,k,c,h1,h2,h3,h4,h5,h6⟩
  ·exact .inl hn
  ·exact .inr ⟨b,k,c,h1,h2,h3,h4,h5,fun i p v hp hv=>(h6 i p v hp hv).mono st⟩
 ·intro o ver es hs
  have:=hd o (by rw [hs];simp)
  obtain ⟨b,k,ms,cl,h1,h2,h3,h4⟩:=h.maps o ver es (this ▸ hs)
  exact ⟨b,k,ms,cl,h1,h2,h3,fun i e m he hm=>⟨(h4 i e m he hm).1,(h4 i e m he hm).2.mono st⟩⟩
def Ctx.at (C:Ctx) (o ver:Nat) (l:Option (Nat × Nat)):Ctx:={ loc:=fun i=>if i=o then l else C.loc i,next:=C.next,clock:=max C.clock (ver+1) }
theorem Sim.turn {C:Ctx} {S:Store} {w w':World} (h:Sim C S w) {o ver e:Nat} {cs:List PV} (hs:S o=.cells ver e cs) {ver':Nat} {cs':List PV} {l:Option (Nat × Nat)}
  (hver:ver<=ver') (hsame:ver=ver'->l=C.loc o)
  (hg:w.grownBy w' ((C.loc o).map (·.1))/\w.drawn<=w'.drawn)
  (hl:(l=none/\cs'=[])\/∃b k c,l=some (b,k)/\(w.heap.size<=b\/(C.loc o).map (·.1)=some b)/\w'.heap[b]?=some (.cells c e (0,0))/\c.size=k/\cs'.length<=k /\
   (∀(i:Nat) (v:Value),i<cs'.length->c[i]?=some v->v.oneCell'=true)/\∀(i:Nat) (p:PV) (v:Value),cs'[i]?=some p->c[i]?=some v->Rel C S w p v) :
  Sim (C.at o ver' l) (S.set o (.cells ver' e cs')) w' /\
  Step C S w (C.at o ver' l) (S.set o (.cells ver' e cs')) w':=by
 have hne:S o≠.dead:=by rw [hs];simp
 have hsame':∀i,i≠o->(C.at o ver' l).loc i=C.loc i:=fun i hi=>by simp [Ctx.at,hi]
 have hloco:(C.at o ver' l).loc o=l:=by simp [Ctx.at]
 have hfar:∀i b k,i≠o->S i≠.dead->C.loc i=some (b,k)->some b≠(C.loc o).map (·.1):=by
  intro i b k hi hd hb he
  cases ho:C.loc o with
  | none=>rw [ho] at he;cases he
  | some x =>
   obtain ⟨b',k'⟩:=x
   rw [ho] at he
   simp only [Option.map_some,Option.some.injEq] at he
   subst he
   exact hi (h.dist i o b k k' hd hne hb ho)
 have st:Step C S w (C.at o ver' l) (S.set o (.cells ver' e cs')) w':=by
  refine ⟨hg.1.os,⟨hg.1.tape,hg.2⟩,hg.1.output,hg.1.size,Nat.le_refl _,by simp only [Ctx.at];omega,fun b hb hM=>⟨hg.1.block b hb ?_,?_⟩,?_⟩
  ·intro he
   cases ho:C.loc o with
   | none=>rw [ho] at he;cases he
   | some x =>
    obtain ⟨b',k'⟩:=x
    rw [ho] at he
    simp only [Option.map_some,Option.some.injEq] at he
    subst he
    exact hM ⟨o,k',hne,ho⟩
  ·rintro ⟨i,k,hd,hb'⟩
   by_cases hi:i=o
   ·subst hi
    rw [hloco] at hb'
    rcases hl with ⟨h0,_⟩ | ⟨b2,k2,c,h0,h1,_⟩
    ·rw [h0] at hb';cases hb'
    ·rw [h0] at hb'
     cases hb'
     rcases h1 with h1 | h1
     ·omega
     ·cases ho:C.loc i with
      | none=>rw [ho] at h1;cases h1
      | some x =>
       obtain ⟨b',k'⟩:=x
       rw [ho] at h1
       simp only [Option.map_some,Option.some.injEq] at h1
       subst h1
       exact hM ⟨i,k',hne,ho⟩
   ·rw [hsame' i hi] at hb';rw [Store.set_other _ _ _ _ hi] at hd;exact hM ⟨i,k,hd,hb'⟩
  ·intro i v1 hv
   by_cases hc:i=o
   ·subst hc
    rw [Store.set_same] at hv
    simp only [Ob.ver,Option.some.injEq] at hv
    subst hv
    exact .inr ⟨ver,by rw [hs];rfl,hver,fun hq=>by rw [hloco];exact hsame hq⟩
   ·rw [Store.set_other _ _ _ _ hc] at hv
    exact .inr ⟨v1,hv,Nat.le_refl _,fun _=>hsame' i hc⟩
 refine ⟨⟨?_,?_,?_,?_,?_⟩,st⟩
 ·intro i hi
  by_cases hc:i=o
  ·subst hc;exact h.lt i hne
  ·rw [Store.set_other _ _ _ _ hc] at hi;exact h.lt i hi
 ·intro i v hv
  by_cases hc:i=o
  ·subst hc;rw [Store.set_same] at hv;cases hv;simp only [Ctx.at];omega
  ·rw [Store.set_other _ _ _ _ hc] at hv
   have:=h.clk i v hv
   simp only [Ctx.at];omega
 ·have one:∀i b k k',i≠o->S i≠.dead->C.loc i=some (b,k)->l=some (b,k')->False:=by
   intro i b k k' hi hd hb hl'
   rcases hl with ⟨h0,_⟩ | ⟨b2,k2,c,h0,h1,_⟩
   ·rw [h0] at hl';cases hl'
   ·rw [h0] at hl'
    cases hl'
    rcases h1 with h1 | h1
    ·have:=h.M_lt ⟨i,k,hd,hb⟩;omega
    ·exact hfar i b k hi hd hb h1.symm
  intro i j b k k' hi hj hl1 hl2
  by_cases hc:i=o<;>by_cases hc':j=o
  ·omega
  ·subst hc
   rw [hloco] at hl1;rw [hsame' j hc'] at hl2;rw [Store.set_other _ _ _ _ hc'] at hj
   exact (one j b k' k hc' hj hl2 hl1).elim
  ·subst hc'
   rw [hloco] at hl2;rw [hsame' i hc] at hl1;rw [Store.set_other _ _ _ _ hc] at hi
   exact (one i b k k' hc hi hl1 hl2).elim
  ·rw [hsame' i hc] at hl1;rw [hsame' j hc'] at hl2;rw [Store.set_other _ _ _ _ hc] at hi;rw [Store.set_other _ _ _ _ hc'] at hj
   exact h.dist i j b k k' hi hj hl1 hl2
 ·intro i v' e' ds hi
  by_cases hc:i=o
  ·subst hc
   rw [Store.set_same] at hi
   cases hi
   rcases hl with ⟨h0,h1⟩ | ⟨b,k,c,h0,_,h2,h3,h4,h5,h6⟩
   ·exact .inl ⟨hloco.trans h0,h1⟩
   ·exact .inr ⟨b,k,c,hloco.trans h0,h2,h3,h4,h5,fun j p v hp hv=>(h6 j p v hp hv).mono st⟩
  ·rw [Store.set_other _ _ _ _ hc] at hi
   rcases h.cells i v' e' ds hi with hn | ⟨b,k,c',g1,g2,g3,g4,g5,g6⟩
   ·exact .inl ⟨(hsame' i hc).trans hn.1,hn.2⟩
   ·exact .inr ⟨b,k,c',(hsame' i hc).trans g1,(hg.1.block b (yW g2) (hfar i b k hc (by rw [hi];simp) g1)).trans g2,g3,g4,g5,fun j p v hp hv=>(g6 j p v hp hv).mono st⟩
 ·intro i ver2 es hi
  by_cases hc:i=o
  ·subst hc;rw [Store.set_same] at hi;cases hi
  ·rw [Store.set_other _ _ _ _ hc] at hi
   obtain ⟨b,k,ms,cl,g1,g2,g3,g4⟩:=h.maps i ver2 es hi
   exact ⟨b,k,ms,cl,(hsame' i hc).trans g1,(hg.1.block b (yW g2) (hfar i b k hc (by rw [hi];simp) g1)).trans g2,g3,fun j x m he hm=>⟨(g4 j x m he hm).1,(g4 j x m he hm).2.mono st⟩⟩
open Go
def uD (v:Value):PV :=
 match v with
 | .agg cs=>if cs.all (·.oneCell') then .agg (cs.toList.map .sc) else .sc v
 | v=>.sc v
def ev (F:Nat->PV):Operand->PV
 | .tmp t=>F t
 | .const v=>uD v
 | .global g=>.sc (.pointer (some ⟨g,0,none⟩))
 | .func f=>.fn (.func f) [] []
def jZ (F:Nat->PV) (d:Nat) (p:PV):Nat->PV:=fun i=>if i=d then p else F i
def zT (F:Nat->PV) (d:Option Nat) (p:PV):Nat->PV :=
 match d with
 | some d=>jZ F d p
 | none=>F
theorem ZaP (F:Nat->PV) (d:Nat) (p:PV):jZ F d p d=p:=by simp [jZ]
theorem ZaQ (F:Nat->PV) (d i:Nat) (p:PV) (h:i≠d):jZ F d p i=F i:=by simp [jZ,h]
def PV.cells:PV->List PV
 | .agg cs=>cs
 | p=>[p]
def PV.one:PV->Bool
 | .junk | .agg _ | .tup _=>false
 | .sc v=>v.oneCell'
 | _=>true
theorem Js {C:Ctx} {S:Store} {w:World} (v:Value):Rel C S w (uD v) v:=by
 unfold uD
 split
 ·split
  ·rename_i cs h
   refine .agg (by simp) ?_ ?_
   ·intro i v hv
    rw [Array.all_eq_true_iff_forall_mem] at h
    exact h v (Array.mem_of_getElem? hv)
   ·intro i c v hc hv
    simp only [List.getElem?_map,Array.getElem?_toList,hv,Option.map_some,Option.some.injEq] at hc
    subst hc;exact .sc v
  ·exact .sc _
 ·exact .sc _
theorem Rel.one {C:Ctx} {S:Store} {w:World} {p:PV} {v:Value} (h:Rel C S w p v) (h1:p.one=true):v.oneCell'=true:=by
 cases h with
 | junk=>cases h1
 | sc v=>exact h1
 | agg=>cases h1
 | tup=>cases h1
 | lst0=>rfl
 | lst1=>rfl
 | ip=>rfl
 | nl0=>rfl
 | nl=>rfl
 | ptr h=>obtain ⟨a,rfl⟩:=h;rfl
 | sl h=>obtain ⟨a,c,rfl,_⟩:=h;rfl
 | fn=>rfl
 | ifc=>rfl
 | mp h=>obtain ⟨a,rfl⟩:=h;rfl
theorem Rel.cells {C:Ctx} {S:Store} {w:World} {p:PV} {v:Value} (h:Rel C S w p v) (h1:p.cells.all PV.one=true) :
  p.cells.length=v.cells.size/\(∀(i:Nat) (u:Value),v.cells[i]?=some u->u.oneCell'=true)/\∀(i:Nat) (c:PV) (u:Value),p.cells[i]?=some c->v.cells[i]?=some u->Rel C S w c u:=by
 cases h with
 | agg hl h2 hr=>exact ⟨hl,h2,hr⟩
 | junk=>simp [PV.cells,PV.one] at h1
 | tup=>simp [PV.cells,PV.one] at h1
 | sc v =>
  simp only [PV.cells,PV.one,List.all_cons,List.all_nil,Bool.and_true] at h1
  have hv:v.cells=#[v]:=by cases v<;>first | rfl | cases h1
  rw [hv]
  refine ⟨rfl,?_,?_⟩
  ·intro i u hu
   rcases i with _ | i
   ·simp at hu;subst hu;exact h1
   ·simp at hu
  ·intro i c u hc hu
   rcases i with _ | i
   ·simp [PV.cells] at hc hu;subst hc;subst hu;exact .sc _
   ·simp at hu
 | lst0=>exact ⟨rfl,by intro i u hu;rcases i with _ | i<;>simp [Value.cells] at hu;subst hu;rfl,by intro i c u hc hu;rcases i with _ | i<;>simp [PV.cells,Value.cells] at hc hu;subst hc;subst hu;exact .lst0⟩
 | lst1 a1 a2 a3 a4 a5 a6 a7=>exact ⟨rfl,by intro i u hu;rcases i with _ | i<;>simp [Value.cells] at hu;subst hu;rfl,by intro i c u hc hu;rcases i with _ | i<;>simp [PV.cells,Value.cells] at hc hu;subst hc;subst hu;exact .lst1 a1 a2 a3 a4 a5 a6 a7⟩
 | nl0=>exact ⟨rfl,by intro i u hu;rcases i with _ | i<;>simp [Value.cells] at hu;subst hu;rfl,by intro i c u hc hu;rcases i with _ | i<;>simp [PV.cells,Value.cells] at hc hu;subst hc;subst hu;exact .nl0⟩
 | nl a1 a2 a3 a4 a5 a6=>exact ⟨rfl,by intro i u hu;rcases i with _ | i<;>simp [Value.cells] at hu;subst hu;rfl,by intro i c u hc hu;rcases i with _ | i<;>simp [PV.cells,Value.cells] at hc hu;subst hc;subst hu;exact .nl a1 a2 a3 a4 a5 a6⟩
 | ip a3 a4 a5 a6 a7=>exact ⟨rfl,by intro i u hu;rcases i with _ | i<;>simp [Value.cells] at hu;subst hu;rfl,by intro i c u hc hu;rcases i with _ | i<;>simp [PV.cells,Value.cells] at hc hu;subst hc;subst hu;exact .ip a3 a4 a5 a6 a7⟩
 | ptr a b c =>
  obtain ⟨x,rfl⟩:=a
  exact ⟨rfl,by intro i u hu;rcases i with _ | i<;>simp [Value.cells] at hu;subst hu;rfl,by intro i c u hc hu;rcases i with _ | i<;>simp [PV.cells,Value.cells] at hc hu;subst hc;subst hu;exact .ptr ⟨_,rfl⟩ b c⟩
 | sl a b c =>
  obtain ⟨x,y,rfl,z⟩:=a
  exact ⟨rfl,by intro i u hu;rcases i with _ | i<;>simp [Value.cells] at hu;subst hu;rfl,by intro i c u hc hu;rcases i with _ | i<;>simp [PV.cells,Value.cells] at hc hu;subst hc;subst hu;exact .sl ⟨_,_,rfl,z⟩ b c⟩
 | fn a b c d=>exact ⟨rfl,by intro i u hu;rcases i with _ | i<;>simp [Value.cells] at hu;subst hu;rfl,by intro i c u hc hu;rcases i with _ | i<;>simp [PV.cells,Value.cells] at hc hu;subst hc;subst hu;exact .fn a b ‹_› d⟩
 | ifc a=>exact ⟨rfl,by intro i u hu;rcases i with _ | i<;>simp [Value.cells] at hu;subst hu;rfl,by intro i c u hc hu;rcases i with _ | i<;>simp [PV.cells,Value.cells] at hc hu;subst hc;subst hu;exact .ifc a⟩
 | mp a b c =>
  obtain ⟨x,rfl⟩:=a
  exact ⟨rfl,by intro i u hu;rcases i with _ | i<;>simp [Value.cells] at hu;subst hu;rfl,by intro i c u hc hu;rcases i with _ | i<;>simp [PV.cells,Value.cells] at hc hu;subst hc;subst hu;exact .mp ⟨_,rfl⟩ b c⟩
def Yo (d:Option TypeDesc):Bool :=
 match d with
 | some (.struct _)=>true
 | some (.array _ _)=>true
 | _=>false
def wV (P:Program) (t:TypeId) (cs:List PV):Option PV :=
 if Yo (P.underlying t) then (if P.cellsOf t<=cs.length then some (.agg (cs.take (P.cellsOf t))) else none) else cs.head?
def Jt (op:BinOp) (k:IntKind) (a:Int) (k':IntKind) (b:Int):Option Value :=
 match op with
 | .shl=>if b<0 then none else some (.int k (k.wrap (a*2 ^ (min b.toNat k.bits))))
 | .shr=>if b<0 then none else some (.int k (a.fdiv (2 ^ (min b.toNat k.bits))))
 | .add=>if k=k' then some (.int k (k.wrap (a+b))) else none
 | .sub=>if k=k' then some (.int k (k.wrap (a-b))) else none
 | .mul=>if k=k' then some (.int k (k.wrap (a*b))) else none
 | .quo=>if k=k'/\b≠0 then some (.int k (k.wrap (a.tdiv b))) else none
 | .rem=>if k=k'/\b≠0 then some (.int k (a.tmod b)) else none
 | .and=>if k=k' then some (.int k (bits .and k a b)) else none
 | .or=>if k=k' then some (.int k (bits .or k a b)) else none
 | .xor=>if k=k' then some (.int k (bits .xor k a b)) else none
 | .andNot=>if k=k' then some (.int k (bits .andNot k a b)) else none
 | .eql=>if k=k' then some (.bool (a == b)) else none
 | .neq=>if k=k' then some (.bool (a != b)) else none
 | .lss=>if k=k' then some (.bool (decide (a<b))) else none
 | .leq=>if k=k' then some (.bool (decide (a<=b))) else none
 | .gtr=>if k=k' then some (.bool (decide (a > b))) else none
 | .geq=>if k=k' then some (.bool (decide (a>=b))) else none
theorem Zfc {P:Program} {w:World} {op:BinOp} {k k':IntKind} {a b:Int} {v:Value} (t:TypeId) (h:Jt op k a k' b=some v) :
  (binOp op t (.int k a) (.int k' b)).run P w=.ok v w:=by
 cases op<;>simp only [Jt,Option.ite_none_right_eq_some,Option.ite_none_left_eq_some,Option.some.injEq] at h
 case shl=>obtain ⟨h0,rfl⟩:=h;simp [binOp,Op.shift,h0]
 case shr=>obtain ⟨h0,rfl⟩:=h;simp [binOp,Op.shift,h0]
 case quo=>obtain ⟨⟨rfl,h0⟩,rfl⟩:=h;simp [binOp,Op.intDiv,h0]
 case rem=>obtain ⟨⟨rfl,h0⟩,rfl⟩:=h;simp [binOp,Op.intDiv,h0]
 all_goals
  obtain ⟨rfl,rfl⟩:=h
  simp [binOp,Op.intArith,Op.intCmp,Op.intBits,bits]
def X4 (op:BinOp) (x y:ByteArray):Option Value :=
 match op with
 | .add=>if x.size+y.size<=9223372036854775807 then some (.string (x++y)) else none
 | .eql=>some (.bool (x.toList == y.toList))
 | .neq=>some (.bool (!(x.toList == y.toList)))
 | .lss=>some (.bool (Op.bytesLess x.toList y.toList))
 | .leq=>some (.bool (Op.bytesLess x.toList y.toList || x.toList == y.toList))
 | .gtr=>some (.bool (!(Op.bytesLess x.toList y.toList || x.toList == y.toList)))
 | .geq=>some (.bool (!(Op.bytesLess x.toList y.toList)))
 | _=>none
theorem Zfd {P:Program} {w:World} {op:BinOp} {x y:ByteArray} {v:Value} (t:TypeId) (h:X4 op x y=some v) :
  (binOp op t (.string x) (.string y)).run P w=.ok v w:=by
 cases op<;>simp only [X4,Option.ite_none_right_eq_some,Option.some.injEq,reduceCtorEq] at h
 case add =>
  obtain ⟨h0,rfl⟩:=h
  simp only [binOp,Op.stringOp,IntKind.max_i64]
  rw [if_neg (by omega)]
  rfl
 all_goals (subst h;simp [binOp,Op.stringOp])
theorem ZaR {P:Program} {t:TypeId} (hb:P.underlying t=some .bool) (w:World) (a b:Bool):(Op.equal t (.bool a) (.bool b)).run P w=.ok (a == b) w:=by
 unfold Op.equal Op.maxDepth
 show (Op.equalIn (9999+1) _ _ _).run P w=_
 unfold Op.equalIn
 simp [run_underlying hb]
theorem Ju {P:Program} {t e:TypeId} (hb:P.underlying t=some (.pointer e)) (w:World) (a:Option Addr):(Op.equal t (.pointer a) (.pointer none)).run P w=.ok a.isNone w:=by
 unfold Op.equal Op.maxDepth
 show (Op.equalIn (9999+1) _ _ _).run P w=_
 unfold Op.equalIn
 cases a<;>simp [run_underlying hb]
def Jv (P:Program) (op:BinOp) (t:TypeId) (x y:PV):Option PV :=
 match x,y with
 | .sc (.int k a),.sc (.int k' b)=>(Jt op k a k' b).map .sc
 | .sc (.string a),.sc (.string b)=>(X4 op a b).map .sc
 | .sc (.bool a),.sc (.bool b) =>
  match P.underlying t,op with
  | some .bool,.eql=>some (.sc (.bool (a == b)))
  | some .bool,.neq=>some (.sc (.bool (!(a == b))))
  | _,_=>none
 | .ptr _ _ _,.sc (.pointer none) =>
  match P.underlying t,op with
  | some (.pointer _),.eql=>some (.sc (.bool false))
  | some (.pointer _),.neq=>some (.sc (.bool true))
  | _,_=>none
 | .sc (.pointer none),.sc (.pointer none) =>
  match P.underlying t,op with
  | some (.pointer _),.eql=>some (.sc (.bool true))
  | some (.pointer _),.neq=>some (.sc (.bool false))
  | _,_=>none
 | _,_=>none
theorem Zfe {P:Program} {C:Ctx} {S:Store} {w:World} {op:BinOp} {t:TypeId} {x y:PV} {p:PV} {u v:Value} (X Y:Operand) (h:Jv P op t x y=some p)
  (hu:Rel C S w x u) (hv:Rel C S w y v) :
  ∃r,(do eqGuard op t X Y u v;binOp op t u v:Sem Value).run P w=.ok r w/\Rel C S w p r:=by
 unfold Jv at h
 split at h
 ·cases hu;cases hv
  obtain ⟨r,hr,rfl⟩:=Option.map_eq_some_iff.1 h
  exact ⟨r,by simp [eqGuard_at_int,Zfc t hr],.sc _⟩
 ·cases hu;cases hv
  obtain ⟨r,hr,rfl⟩:=Option.map_eq_some_iff.1 h
  exact ⟨r,by simp [eqGuard_at_string,Zfd t hr],.sc _⟩
 ·cases hu;cases hv
  split at h
  ·rename_i hb;cases h
   exact ⟨_,by simp [eqGuard_at_bool,binOp,ZaR hb],.sc _⟩
  ·rename_i hb;cases h
   exact ⟨_,by simp [eqGuard_at_bool,binOp,ZaR hb],.sc _⟩
  ·cases h
 ·cases hv
  cases hu with
  | ptr h1 h2 h3 =>
   obtain ⟨a,rfl⟩:=h1
   split at h
   ·rename_i e hb;cases h
    exact ⟨_,by simp [eqGuard_at_pointer,binOp,Ju hb],.sc _⟩
   ·rename_i e hb;cases h
    exact ⟨_,by simp [eqGuard_at_pointer,binOp,Ju hb],.sc _⟩
   ·cases h
 ·cases hu;cases hv
  split at h
  ·rename_i e hb;cases h
   exact ⟨_,by simp [eqGuard_at_pointer,binOp,Ju hb],.sc _⟩
  ·rename_i e hb;cases h
   exact ⟨_,by simp [eqGuard_at_pointer,binOp,Ju hb],.sc _⟩
  ·cases h
 ·cases h
open Go
def Jw (P:Program) (t:TypeId) (x i:PV):Option PV :=
 match i with
 | .sc (.int _ n) =>
  match P.underlying t with
  | some (.slice e) =>
   match x with
   | .lst len cs=>if (0<=n/\n<(len:Int))/\P.cellsOf e≠0 then some (.ip (cs.drop (n.toNat * P.cellsOf e))) else none
   | .sl o ver _ off len=>if (0<=n/\n<(len:Int))/\P.cellsOf e≠0 then some (.ptr o ver (off+n.toNat * P.cellsOf e)) else none
   | _=>none
  | some (.array len e) =>
   match x with
   | .ip cs=>if (0<=n/\n<(len:Int))/\P.cellsOf e≠0 then some (.ip (cs.drop (n.toNat * P.cellsOf e))) else none
   | .ptr o ver off=>if (0<=n/\n<(len:Int))/\P.cellsOf e≠0 then some (.ptr o ver (off+n.toNat * P.cellsOf e)) else none
   | _=>none
  | _=>none
 | _=>none
theorem x9 {P:Program} {t:TypeId} (h:P.cellsOf t≠0) (w:World):(sizeOf t).run P w=.ok (P.cellsOf t) w:=by
 unfold sizeOf typeInfo
 unfold Program.cellsOf at h ⊢
 cases hi:P.info? t with
 | none=>simp [hi] at h
 | some i=>simp [hi]
theorem ZaS {P:Program} {t:TypeId} {d:TypeDesc} (h:P.underlying t=some d) (w:World):(sizeOf t).run P w=.ok (P.cellsOf t) w:=by
 unfold sizeOf typeInfo Program.cellsOf
 unfold Program.underlying at h
 cases hi:P.info? t with
 | none=>simp [hi] at h
 | some i=>simp [hi]
theorem Qm {C:Ctx} {S:Store} {w:World} {c:Array Value} {o k:Nat} {cs:List PV} (hs:cs≠[]->o+cs.length<=c.size)
  (h1:∀(i:Nat) (v:Value),i<cs.length->c[o+i]?=some v->v.oneCell'=true)
  (h:∀(i:Nat) (p:PV) (v:Value),cs[i]?=some p->c[o+i]?=some v->Rel C S w p v) :
  (cs.drop k≠[]->(o+k)+(cs.drop k).length<=c.size)/\(∀(i:Nat) (v:Value),i<(cs.drop k).length->c[(o+k)+i]?=some v->v.oneCell'=true) /\
  ∀(i:Nat) (p:PV) (v:Value),(cs.drop k)[i]?=some p->c[(o+k)+i]?=some v->Rel C S w p v:=by
 refine ⟨fun hne=>?_,fun i v hi hv=>?_,fun i p v hp hv=>?_⟩
 ·have hk:k<cs.length:=by
   rcases Nat.lt_or_ge k cs.length with h | h
   ·exact h
   ·exact absurd (List.drop_eq_nil_of_le h) hne
  have:=hs (by intro e;rw [e] at hk;simp at hk)
  rw [List.length_drop];omega
 ·rw [List.length_drop] at hi
  exact h1 (k+i) v (by omega) (by rw [<-Nat.add_assoc];exact hv)
 ·rw [List.getElem?_drop] at hp
  exact h (k+i) p v hp (by rw [<-Nat.add_assoc];exact hv)
theorem Addr.add_plain (b o n:Nat):Addr.add ⟨b,o,none⟩ n=⟨b,o+n,none⟩:=Addr.add_lit b o n
theorem Zff {P:Program} {C:Ctx} {S:Store} {w:World} {t:TypeId} {x i p:PV} {u v:Value}
  (h:Jw P t x i=some p) (hu:Rel C S w x u) (hv:Rel C S w i v):∃r,(Instr.indexAt t u v).run P w=.ok r w/\Rel C S w p r:=by
 unfold Jw at h
 split at h
 ·cases hv
  rename_i k n
  split at h
  ·rename_i e ht
   split at h
   ·rename_i len cs
    split at h
    ·rename_i hn
     obtain ⟨hn,hz⟩:=hn
     cases h
     cases hu with
     | lst0=>simp only [Int.natCast_zero] at hn;omega
     | lst1 hn' hm hb hM hs h1 hr =>
      obtain ⟨g1,g2,g3⟩:=Qm (k:=n.toNat * P.cellsOf e) hs h1 hr
      refine ⟨_,?_,.ip hb hM g1 g2 g3⟩
      simp [Instr.indexAt,asIntOf,run_underlying ht,hn,x9 hz,Addr.add_plain]
    ·cases h
   ·rename_i o ver sz off len
    split at h
    ·rename_i hn
     obtain ⟨hn,hz⟩:=hn
     cases h
     cases hu with
     | sl h1 h2 h3 =>
      obtain ⟨a,cap,rfl,k1,k2,k3,k4⟩:=h1
      obtain ⟨b,f,rfl⟩:=k4 (by omega)
      refine ⟨_,by simp [Instr.indexAt,asIntOf,run_underlying ht,hn,x9 hz,Addr.add_plain];rfl,.ptr ⟨_,rfl⟩ h2 fun v0 hv0=>?_⟩
      obtain ⟨g1,g2⟩:=h3 v0 hv0
      refine ⟨g1,fun hq=>?_⟩
      rcases g2 hq with ⟨_,g,_⟩ | ⟨b',k',a',cap',q1,q2,q3,q4⟩
      ·omega
      ·have:=q4 (by omega)
       cases q2
       cases this
       exact ⟨_,_,q1,rfl⟩
    ·cases h
   ·cases h
  ·rename_i len e ht
   split at h
   ·rename_i cs
    split at h
    ·rename_i hn
     obtain ⟨hn,hz⟩:=hn
     cases h
     cases hu with
     | ip hb hM hs h1 hr =>
      obtain ⟨g1,g2,g3⟩:=Qm (k:=n.toNat * P.cellsOf e) hs h1 hr
      refine ⟨_,?_,.ip hb hM g1 g2 g3⟩
      simp [Instr.indexAt,asIntOf,run_underlying ht,hn,x9 hz,Addr.add_plain,Instr.sureAddr]
    ·cases h
   ·rename_i o ver off
    split at h
    ·rename_i hn
     obtain ⟨hn,hz⟩:=hn
     cases h
     cases hu with
     | ptr h1 h2 h3 =>
      obtain ⟨a,rfl⟩:=h1
      refine ⟨_,by simp [Instr.indexAt,asIntOf,run_underlying ht,hn,x9 hz,Instr.sureAddr];rfl,.ptr ⟨_,rfl⟩ h2 fun v0 hv0=>?_⟩
      obtain ⟨g1,g2⟩:=h3 v0 hv0
      refine ⟨g1,fun hq=>?_⟩
      obtain ⟨b,k',q1,q2⟩:=g2 hq
      cases q2
      exact ⟨_,_,q1,by rw [Addr.add_plain]⟩
    ·cases h
   ·cases h
  ·cases h
 ·cases h
def Jx (P:Program) (t:TypeId) (x:PV) (f:Nat):Option PV :=
 match P.underlying t with
 | some (.struct fs) =>
  match fs[f]? with
  | some fd =>
   if P.cellsOf fd.type=0 then none else
   match x with
   | .ip cs=>some (.ip (cs.drop fd.offset))
   | .ptr o ver off=>some (.ptr o ver (off+fd.offset))
   | _=>none
  | none=>none
 | _=>none
theorem Zfg {P:Program} {C:Ctx} {S:Store} {w:World} {t:TypeId} {x p:PV} {f:Nat} {u:Value} (h:Jx P t x f=some p) (hu:Rel C S w x u) :
  ∃r,(Instr.fieldAt t u f).run P w=.ok r w/\Rel C S w p r:=by
 unfold Jx at h
 split at h
 ·rename_i fs ht
  split at h
  ·rename_i fd hf
   split at h
   ·cases h
   ·rename_i hz
    have hsz:=x9 hz w
    split at h
    ·cases h
     cases hu with
     | ip hb hM hs h1 hr =>
      obtain ⟨g1,g2,g3⟩:=Qm (k:=fd.offset) hs h1 hr
      refine ⟨_,?_,.ip hb hM g1 g2 g3⟩
      simp [Instr.fieldAt,run_underlying ht,hf,Instr.sureAddr,fieldPlace,hsz,hz,Addr.add_plain]
    ·cases h
     cases hu with
     | ptr h1 h2 h3 =>
      obtain ⟨a,rfl⟩:=h1
      refine ⟨_,by simp [Instr.fieldAt,run_underlying ht,hf,Instr.sureAddr,fieldPlace,hsz,hz];rfl,.ptr ⟨_,rfl⟩ h2 fun v0 hv0=>?_⟩
      obtain ⟨g1,g2⟩:=h3 v0 hv0
      refine ⟨g1,fun hq=>?_⟩
      obtain ⟨b,k',q1,q2⟩:=g2 hq
      cases q2
      exact ⟨_,_,q1,by rw [Addr.add_plain]⟩
    ·cases h
  ·cases h
 ·cases h
theorem Jy (c:Array Value) (o:Nat):c.extract o o=#[]:=by
 apply Array.eq_empty_of_size_eq_zero
 simp only [Array.size_extract];omega
theorem ZaT {P:Program} {w:World} {b o:Nat} {c:Array Value} {e:TypeId} {fz:Nat × Nat} (hb:w.heap[b]?=some (.cells c e fz)) :
  ∀(n i:Nat) (acc:Array Value),o+i+n<=c.size->(loadCellsFrom ⟨b,o,none⟩ i n acc).run P w=.ok (acc++c.extract (o+i) (o+i+n)) w:=by
 intro n
 induction n with
 | zero =>
  intro i acc h
  simp only [loadCellsFrom,Sem.run_pure,Nat.add_zero]
  rw [Jy,Array.append_empty]
 | succ n ih =>
  intro i acc h
  have hc:w.cell? ⟨b,o+i,none⟩=some (c[o+i]'(by omega)):=by
   simp [World.cell?,hb]
  unfold loadCellsFrom
  simp only [Sem.run_bind,run_load,Addr.add_plain,hc,Result.andThen_ok]
  rw [ih (i+1) _ (by omega)]
  congr 1
  apply Array.ext
  ·simp only [Array.size_append,Array.size_push,Array.size_extract];omega
  ·intro j h1 h2
   simp only [Array.getElem_append,Array.getElem_push,Array.getElem_extract,Array.size_push]
   by_cases q1:j<acc.size
   ·have:j<acc.size+1:=by omega
    simp [q1,this]
   ·by_cases q2:j=acc.size
    ·subst q2;simp
    ·have:¬j<acc.size+1:=by omega
     simp only [q1,this,dite_false]
     congr 1
     omega
theorem ZaU {P:Program} {t:TypeId} {d:TypeDesc} (h:P.underlying t=some d) (w:World):(isAgg t).run P w=.ok (Yo (P.underlying t)) w:=by
 unfold isAgg
 rw [h]
 simp only [Sem.run_bind,run_underlying h,Result.andThen_ok]
 cases d<;>rfl
theorem X5 {P:Program} {C:Ctx} {S:Store} {w:World} {b o:Nat} {c:Array Value} {e:TypeId} {fz:Nat × Nat} {t:TypeId} {cs:List PV} {p:PV} {d:TypeDesc} (hd:P.underlying t=some d)
  (hb:w.heap[b]?=some (.cells c e fz)) (hs:cs≠[]->o+cs.length<=c.size)
  (h1:∀(i:Nat) (v:Value),i<cs.length->c[o+i]?=some v->v.oneCell'=true)
  (h:∀(i:Nat) (q:PV) (v:Value),cs[i]?=some q->c[o+i]?=some v->Rel C S w q v) (hp:wV P t cs=some p) :
  ∃r,(loadVar t ⟨b,o,none⟩).run P w=.ok r w/\Rel C S w p r:=by
 unfold wV at hp
 unfold loadVar
 simp only [Sem.run_bind,ZaU hd,Result.andThen_ok]
 cases hg:Yo (P.underlying t)
 ·simp only [hg,Bool.false_eq_true,if_false] at hp ⊢
  cases cs with
  | nil=>cases hp
  | cons q qs =>
   cases hp
   have:=hs (by simp)
   simp only [List.length_cons] at this
   have hc:w.cell? ⟨b,o,none⟩=some (c[o]'(by omega)):=by simp [World.cell?,hb]
   refine ⟨c[o]'(by omega),by simp [run_load,hc],?_⟩
   exact h 0 p _ rfl (by simp)
 ·simp only [hg,if_true] at hp ⊢
  split at hp
  ·rename_i hz
   cases hp
   refine ⟨.agg (c.extract o (o+P.cellsOf t)),?_,?_⟩
   ·simp only [Sem.run_bind,ZaS hd,Result.andThen_ok,loadCells]
    by_cases h0:P.cellsOf t=0
    ·simp [h0,loadCellsFrom,Jy]
    ·have hne:cs≠[]:=by intro e;rw [e] at hz;simp at hz;exact h0 hz
     have:=hs hne
     have hr:=ZaT (P:=P) (o:=o) hb (P.cellsOf t) 0 #[] (by omega)
     simp only [Nat.add_zero] at hr
     simp [hr]
   ·by_cases h0:P.cellsOf t=0
    ·rw [h0,Nat.add_zero,Jy]
     refine .agg (by simp) ?_ ?_
     ·intro i v hv;simp at hv
     ·intro i c v hc;simp at hc
    have hne:cs≠[]:=by intro e;rw [e] at hz;simp at hz;exact h0 hz
    have:=hs hne
    have hx:∀(i:Nat) (v:Value),(c.extract o (o+P.cellsOf t))[i]?=some v->i<P.cellsOf t/\c[o+i]?=some v:=by
     intro i v hv
     rw [Array.getElem?_extract] at hv
     split at hv
     ·exact ⟨by omega,hv⟩
     ·cases hv
    refine .agg (by simp;omega) ?_ ?_
    ·intro i v hv
     obtain ⟨x1,x2⟩:=hx i v hv
     exact h1 i v (by omega) x2
    ·intro i q v hq hv
     obtain ⟨x1,x2⟩:=hx i v hv
     rw [List.getElem?_take_of_lt x1] at hq
     exact h i q v hq x2
  ·cases hp
theorem Jz {P:Program} {C:Ctx} {S:Store} {w:World} {t:TypeId} {d:TypeDesc} (hd:P.underlying t=some d) {cs:List PV} {vs:Array Value} {o:Nat} {p:PV} (hl:cs.length=vs.size)
  (h1:∀(i:Nat) (v:Value),vs[i]?=some v->v.oneCell'=true) (h:∀(i:Nat) (c:PV) (v:Value),cs[i]?=some c->vs[i]?=some v->Rel C S w c v)
  (hp:wV P t (cs.drop o)=some p):∃r,(part t vs o).run P w=.ok r w/\Rel C S w p r:=by
 unfold wV at hp
 unfold part
 simp only [Sem.run_bind,ZaU hd,Result.andThen_ok]
 cases hg:Yo (P.underlying t)
 ·simp only [hg,Bool.false_eq_true,if_false] at hp ⊢
  rw [List.head?_drop] at hp
  have ho:o<cs.length:=(List.getElem?_eq_some_iff.1 hp).1
  have hv:vs[o]?=some (vs[o]'(by omega)):=by simp
  exact ⟨_,by simp [hv],h o p _ hp hv⟩
 ·simp only [hg,if_true] at hp ⊢
  split at hp
  ·rename_i hz
   cases hp
   rw [List.length_drop] at hz
   refine ⟨.agg (vs.extract o (o+P.cellsOf t)),by simp [ZaS hd],?_⟩
   by_cases h0:P.cellsOf t=0
   ·rw [h0,Nat.add_zero,Jy]
    refine .agg (by simp) ?_ ?_
    ·intro i v hv;simp at hv
    ·intro i c v hc;simp at hc
   have hx:∀(i:Nat) (v:Value),(vs.extract o (o+P.cellsOf t))[i]?=some v->i<P.cellsOf t/\vs[o+i]?=some v:=by
    intro i v hv
    rw [Array.getElem?_extract] at hv
    split at hv
    ·exact ⟨by omega,hv⟩
    ·cases hv
   refine .agg (by simp;omega) ?_ ?_
   ·intro i v hv
    exact h1 _ v (hx i v hv).2
   ·intro i q v hq hv
    obtain ⟨x1,x2⟩:=hx i v hv
    rw [List.getElem?_take_of_lt x1,List.getElem?_drop] at hq
    exact h (o+i) q v hq x2
  ·cases hp
open Go
def RelL (C:Ctx) (S:Store) (w:World) (cs:List PV) (vs:Array Value):Prop :=
 cs.length=vs.size/\(∀(i:Nat) (v:Value),vs[i]?=some v->v.oneCell'=true)/\∀(i:Nat) (c:PV) (v:Value),cs[i]?=some c->vs[i]?=some v->Rel C S w c v
theorem RelL.mono {C C':Ctx} {S S':Store} {w w':World} (st:Step C S w C' S' w') {cs:List PV} {vs:Array Value} (h:RelL C S w cs vs):RelL C' S' w' cs vs :=
 ⟨h.1,h.2.1,fun i c v hc hv=>(h.2.2 i c v hc hv).mono st⟩
theorem Zfh (l:List Value):∀(k off:Nat) (cells:Array Value),off+k+l.length<=cells.size ->
  ((l.zipIdx k).foldl (fun cs x=>cs.setIfInBounds (off+x.2) x.1) cells).size=cells.size /\
  ∀i,((l.zipIdx k).foldl (fun cs x=>cs.setIfInBounds (off+x.2) x.1) cells)[i]?=if off+k<=i/\i<off+k+l.length then l[i-(off+k)]? else cells[i]?:=by
 induction l with
 | nil=>intro k off cells _;exact ⟨rfl,fun i=>by rw [if_neg (by simp only [List.length_nil];omega)];rfl⟩
 | cons x xs ih =>
  intro k off cells h
  simp only [List.length_cons] at h
  simp only [List.zipIdx_cons,List.foldl_cons]
  obtain ⟨h1,h2⟩:=ih (k+1) off (cells.setIfInBounds (off+k) x) (by simp;omega)
  refine ⟨by rw [h1];simp,fun i=>?_⟩
  rw [h2 i]
  simp only [List.length_cons]
  by_cases hi:i=off+k
  ·subst hi
   rw [if_neg (by omega),if_pos (by omega)]
   have:off+k<cells.size:=by omega
   simp [this]
  ·by_cases hin:off+k<=i/\i<off+k+(xs.length+1)
   ·rw [if_pos (by omega),if_pos hin]
    have:i-(off+k)=(i-(off+(k+1)))+1:=by omega
    rw [this,List.getElem?_cons_succ]
   ·rw [if_neg (by omega),if_neg hin]
    rw [Array.getElem?_setIfInBounds,if_neg (by omega)]
def PV.fit:PV->Bool
 | .agg _=>true
 | p=>p.one
def uE (place:Nat->Option (Nat × Nat)) (cells:List PV):List (Nat × PV)->Option (List PV)
 | []=>some cells
 | (i,p) :: rest =>
  match place i with
  | none=>none
  | some (off,size) =>
   if p.cells.length=size/\off+size<=cells.length/\p.fit=true then uE place (cells.take off++p.cells++cells.drop (off+size)) rest else none
theorem Rel.cells' {C:Ctx} {S:Store} {w:World} {p:PV} {v:Value} (h:Rel C S w p v) (h1:p.fit=true):RelL C S w p.cells v.cells:=by
 cases p with
 | agg cs=>cases h with | agg hl h1 h2=>exact ⟨hl,h1,h2⟩
 | junk=>cases h1
 | tup=>cases h1
 | sc v=>exact h.cells (by simp [PV.cells];exact h1)
 | _=>exact h.cells (by simp [PV.cells,PV.one])
theorem ZaV {C:Ctx} {S:Store} {w:World} {place:Nat->Option (Nat × Nat)} (F:Operand->PV) (ρ:Operand->Value) (hρ:∀x,Rel C S w (F x) (ρ x)) :
  ∀(parts:List (Nat × Operand)) (cs:List PV) (vs:Array Value) (cs':List PV),RelL C S w cs vs->uE place cs (parts.map fun x=>(x.1,F x.2))=some cs' ->
   ∃vs',Instr.fill place vs (parts.map fun x=>(x.1,ρ x.2))=some vs'/\RelL C S w cs' vs':=by
 intro parts
 induction parts with
 | nil=>intro cs vs cs' h hf;cases hf;exact ⟨vs,rfl,h⟩
 | cons x xs ih =>
  intro cs vs cs' h hf
  obtain ⟨i,x⟩:=x
  simp only [List.map_cons,uE] at hf
  split at hf
  ·cases hf
  ·rename_i off size hp
   split at hf
   ·rename_i hc
    obtain ⟨hc1,hc2,hc3⟩:=hc
    have hr:=(hρ x).cells' hc3
    obtain ⟨hl,h1,h2⟩:=h
    obtain ⟨gl,g1,g2⟩:=hr
    obtain ⟨s1,s2⟩:=Zfh (ρ x).cells.toList 0 off vs (by simp;omega)
    simp only [Nat.add_zero,Array.length_toList] at s1 s2
    refine Exists.imp (fun vs'=>And.imp_left fun e=>?_) (ih _ (((ρ x).cells.toList.zipIdx 0).foldl (fun cs x=>cs.setIfInBounds (off+x.2) x.1) vs) cs' ?_ hf)
    ·have hsz:(F x).cells.length=(ρ x).cells.size:=gl
     simp only [List.map_cons,Instr.fill,hp]
     rw [if_neg (by simp only [Bool.or_eq_true,decide_eq_true_eq];omega)]
     rw [<-e]
     congr 1
     rw [<-Array.foldl_toList,Array.toList_zipIdx]
    ·refine ⟨?_,?_,?_⟩
     ·rw [s1];simp;omega
     ·intro j v hv
      rw [s2 j] at hv
      split at hv
      ·exact g1 _ v (by rw [<-Array.getElem?_toList];exact hv)
      ·exact h1 j v hv
     ·intro j c v hc' hv
      rw [s2 j] at hv
      split at hv
      ·rename_i hj
       rw [List.append_assoc,List.getElem?_append_right (by simp;omega),List.length_take,Nat.min_eq_left (by omega),List.getElem?_append_left (by omega)] at hc'
       exact g2 (j-off) c v hc' (by rw [<-Array.getElem?_toList];exact hv)
      ·rename_i hj
       by_cases hlt:j<off
       ·rw [List.append_assoc,List.getElem?_append_left (by simp;omega),List.getElem?_take_of_lt hlt] at hc'
        exact h2 j c v hc' hv
       ·rw [List.getElem?_append_right (by simp;omega),List.length_append,List.length_take,Nat.min_eq_left (by omega),List.getElem?_drop] at hc'
        have:off+size+(j-(off+(F x).cells.length))=j:=by omega
        rw [this] at hc'
        exact h2 j c v hc' hv
   ·cases hf
def Program.zeroOf (P:Program) (t:TypeId):Option Value:=(P.info? t).bind (·.zero)
theorem ZP {P:Program} {t:TypeId} {z:Value} (h:Program.zeroOf P t=some z) (w:World):(zeroValue t).run P w=.ok z w:=by
 unfold zeroValue typeInfo
 unfold Program.zeroOf at h
 cases hi:P.info? t with
 | none=>simp [hi] at h
 | some i=>simp [hi] at h;simp [hi,h]
def qy (z:Value):List PV:=z.cells.toList.map .sc
theorem ZaW {C:Ctx} {S:Store} {w:World} {z:Value} (h:z.cells.all (·.oneCell')=true):RelL C S w (qy z) z.cells:=by
 refine ⟨by simp [qy],?_,?_⟩
 ·intro i v hv
  rw [Array.all_eq_true_iff_forall_mem] at h
  exact h v (Array.mem_of_getElem? hv)
 ·intro i c v hc hv
  simp only [qy,List.getElem?_map,Array.getElem?_toList,hv,Option.map_some,Option.some.injEq] at hc
  subst hc;exact .sc v
def X6 (P:Program) (t:TypeId):Nat->Option (Nat × Nat):=fun i =>
 match P.underlying t with
 | some (.struct fs) =>
  match fs[i]? with
  | some f=>some (f.offset,P.cellsOf f.type)
  | none=>none
 | some (.array _ e)=>some (i*P.cellsOf e,P.cellsOf e)
 | _=>none
def X7 (P:Program) (t:TypeId):Bool :=
 match P.underlying t with
 | some (.struct fs)=>fs.all fun f=>(P.info? f.type).isSome
 | some (.array _ e)=>(P.info? e).isSome
 | _=>false
def JA (P:Program) (t:TypeId) (parts:List (Nat × PV)):Option PV :=
 match Program.zeroOf P t with
 | none=>none
 | some z=>if z.cells.all (·.oneCell')=true/\X7 P t=true then (uE (X6 P t) (qy z) parts).map .agg else none
theorem ZaX {P:Program} {t:TypeId} (h:(P.info? t).isSome=true) (w:World):(sizeOf t).run P w=.ok (P.cellsOf t) w:=by
 unfold sizeOf typeInfo Program.cellsOf
 cases hi:P.info? t with
 | none=>simp [hi] at h
 | some i=>simp [hi]
theorem Zfi {P:Program} {w:World}:∀(l:List Field),(∀f∈l,(P.info? f.type).isSome=true) ->
  (l.mapM fun f=>(do pure (f.offset,<-sizeOf f.type):Sem (Nat × Nat))).run P w=.ok (l.map fun f=>(f.offset,P.cellsOf f.type)) w:=by
 intro l
 induction l with
 | nil=>intro _;simp
 | cons f fs ih =>
  intro h
  simp only [List.mapM_cons,Sem.run_bind,ZaX (h f (by simp)),Result.andThen_ok,Sem.run_pure,ih (fun g hg=>h g (by simp [hg])),List.map_cons]
theorem Zfj {P:Program} {C:Ctx} {S:Store} {w:World} {t:TypeId} {parts:List (Nat × Operand)} {p:PV} (F:Operand->PV) (ρ:Operand->Value) (hρ:∀x,Rel C S w (F x) (ρ x))
  (h:JA P t (parts.map fun x=>(x.1,F x.2))=some p):∃r,(Instr.build t (parts.map fun x=>(x.1,ρ x.2)).toArray).run P w=.ok r w/\Rel C S w p r:=by
 unfold JA at h
 split at h
 ·cases h
 ·rename_i z hz
  split at h
  ·rename_i hc
   obtain ⟨hone,hk⟩:=hc
   obtain ⟨cs',hf,rfl⟩:=Option.map_eq_some_iff.1 h
   obtain ⟨vs',hv,hr⟩:=ZaV F ρ hρ parts _ _ _ (ZaW hone) hf
   refine ⟨.agg vs',?_,.agg hr.1 hr.2.1 hr.2.2⟩
   unfold Instr.build
   simp only [Sem.run_bind,ZP hz,Result.andThen_ok]
   unfold X7 at hk
   unfold X6 at hv
   cases ht:P.underlying t with
   | none=>rw [ht] at hk;cases hk
   | some d =>
    rw [ht] at hk hv
    cases d with
    | struct fs =>
     simp only at hk hv
     simp only [run_underlying ht,Result.andThen_ok,Sem.run_bind]
     have hm:=Zfi (P:=P) (w:=w) fs.toList (fun f hf=>by
      rw [Array.all_eq_true_iff_forall_mem] at hk
      exact hk f (Array.mem_toList_iff.1 hf))
     have hm':(fs.mapM fun f=>(do pure (f.offset,<-sizeOf f.type):Sem (Nat × Nat))).run P w=.ok (fs.map fun f=>(f.offset,P.cellsOf f.type)) w:=by
      rw [<-Array.toArray_toList (xs:=fs),List.mapM_toArray]
      simp only [Sem.run_map,hm,Result.andThen_ok]
      congr 1
      apply Array.toList_inj.1
      simp
     rw [hm']
     simp only [Result.andThen_ok]
     have hpl:(fun (x:Nat)=>(fs.map fun (f:Field)=>(f.offset,P.cellsOf f.type))[x]?)=(fun i=>match fs[i]? with | some (f:Field)=>some (f.offset,P.cellsOf f.type) | none=>none):=by
      funext i
      rw [Array.getElem?_map]
      cases fs[i]?<;>rfl
     rw [hpl,hv]
     rfl
    | array n e =>
     simp only at hk hv
     simp only [run_underlying ht,Result.andThen_ok,Sem.run_bind,ZaX hk]
     rw [hv]
     rfl
    | _=>cases hk
  ·cases h
def qW (n:Nat) (z:Value):List PV:=(List.range (n*z.cells.size)).map fun i=>.sc (z.cells[i % z.cells.size]!)
theorem ZaY {C:Ctx} {S:Store} {w:World} {z:Value} (h:z.cells.all (·.oneCell')=true) (n:Nat) :
  RelL C S w (qW n z) ((Array.range (n*z.cells.size)).map (z.cells[· % z.cells.size]!)):=by
 refine ⟨by simp [qW],?_,?_⟩
 ·intro i v hv
  rw [Array.getElem?_map,Option.map_eq_some_iff] at hv
  obtain ⟨j,hj,rfl⟩:=hv
  have hlt:j<n*z.cells.size:=by
   obtain ⟨h1,h2⟩:=Array.getElem?_eq_some_iff.1 hj
   simp at h1 h2;omega
  have hp:0<z.cells.size:=by
   rcases Nat.eq_zero_or_pos z.cells.size with e | e
   ·rw [e] at hlt;omega
   ·exact e
  have hm:j % z.cells.size<z.cells.size:=Nat.mod_lt _ hp
  rw [getElem!_pos z.cells _ hm]
  rw [Array.all_eq_true] at h
  exact h _ hm
 ·intro i c v hc hv
  rw [Array.getElem?_map,Option.map_eq_some_iff] at hv
  obtain ⟨j,hj,rfl⟩:=hv
  obtain ⟨h1,h2⟩:=Array.getElem?_eq_some_iff.1 hj
  simp at h1 h2
  subst h2
  simp only [qW,List.getElem?_map,List.getElem?_range h1,Option.map_some,Option.some.injEq] at hc
  subst hc;exact .sc _
def uF (P:Program) (e:TypeId) (len:Nat) (parts:List (Nat × PV)):Option (List PV) :=
 match Program.zeroOf P e with
 | none=>none
 | some z=>if z.cells.all (·.oneCell')=true/\z.cells.size=P.cellsOf e/\P.cellsOf e≠0/\len*P.cellsOf e<=2 ^ 24 then
   uE (fun i=>some (i*P.cellsOf e,P.cellsOf e)) (qW len z) parts else none
theorem ZaZ {P:Program} {C:Ctx} {S:Store} {w:World} {t e:TypeId} {len:Nat} {parts:List (Nat × Operand)} {cs:List PV} (ht:P.underlying t=some (.slice e)) (F:Operand->PV) (ρ:Operand->Value)
  (hρ:∀x,Rel C S w (F x) (ρ x)) (h:uF P e len (parts.map fun x=>(x.1,F x.2))=some cs) :
  ∃vs,(Instr.buildSlice t len (parts.map fun x=>(x.1,ρ x.2)).toArray).run P w=.ok (.slice (some ⟨w.heap.size,0,none⟩) len len) (w.alloc (.cells vs e))/\RelL C S w cs vs/\vs.size=len*P.cellsOf e:=by
 unfold uF at h
 split at h
 ·cases h
 ·rename_i z hz
  split at h
  ·rename_i hc
   obtain ⟨hone,hsz,h0,h24⟩:=hc
   obtain ⟨vs',hv,hr⟩:=ZaV F ρ hρ parts _ _ _ (ZaY hone len) h
   have hlen:∀(l:List (Nat × PV)) (a b:List PV) (pl:Nat->Option (Nat × Nat)),uE pl a l=some b->b.length=a.length:=by
    intro l
    induction l with
    | nil=>intro a b pl hh;cases hh;rfl
    | cons x xs ih =>
     intro a b pl hh
     obtain ⟨i,x⟩:=x
     simp only [uE] at hh
     split at hh
     ·cases hh
     ·split at hh
      ·rename_i hc
       obtain ⟨hc1,hc2,hc3⟩:=hc
       rw [ih _ _ _ hh];simp;omega
      ·cases hh
   refine ⟨vs',?_,hr,?_⟩
   ·unfold Instr.buildSlice
    simp only [Sem.run_bind,run_underlying ht,Result.andThen_ok,x9 h0]
    rw [if_neg (by omega)]
    by_cases hl0:len*P.cellsOf e=0
    ·have hlen0:len=0:=by
      rcases Nat.mul_eq_zero.1 hl0 with h | h
      ·exact h
      ·exact absurd h h0
     subst hlen0
     simp only [Nat.zero_mul,Array.range_zero',Array.map_empty] at hv
     simp only [Nat.zero_mul,if_true,Sem.run_pure,Result.andThen_ok,Sem.run_bind,Array.range_zero',Array.map_empty]
     rw [hv]
     simp [newRow]
    ·rw [if_neg hl0]
     simp only [Sem.run_bind,ZP hz,Result.andThen_ok,Sem.run_pure]
     rw [<-hsz] at hv ⊢
     rw [hv]
     simp [newRow]
   ·rw [<-hr.1,hlen _ _ _ _ h];simp [qW,hsz]
  ·cases h
open Go
def jQ (d:Nat) (x:Option PV):Option Nat :=
 match x with
 | none=>some d
 | some (.sc (.int _ n))=>if 0<=n then some n.toNat else none
 | _=>none
theorem X8 {P:Program} {C:Ctx} {S:Store} {w:World} {d b y:Nat} {x:Option PV} {u:Option Value} (h:jQ d x=some b) (hx:∀p,x=some p->∃v,u=some v/\Rel C S w p v) (hn:x=none->u=none)
  (hb:b<=y) (code:BoundsCode):(u=none/\b=d)\/∃v,u=some v/\(Instr.sliceBound v y code).run P w=.ok b w:=by
 unfold jQ at h
 split at h
 ·cases h;exact .inl ⟨hn rfl,rfl⟩
 ·split at h
  ·rename_i k n hk
   cases h
   obtain ⟨v,hv,hr⟩:=hx _ rfl
   cases hr
   refine .inr ⟨_,hv,?_⟩
   simp only [Instr.sliceBound,asIntOf,Sem.run_bind,Sem.run_pure,Result.andThen_ok]
   rw [if_pos ⟨hk,by omega⟩]
   rfl
  ·cases h
 ·cases h
def JB (P:Program) (t:TypeId) (x:PV) (lo hi mx:Option PV):Option PV :=
 match jQ 0 lo with
 | none=>none
 | some l =>
  match x with
  | .lst n cs =>
   match P.underlying t,jQ n hi,jQ n mx with
   | some (.slice e),some h,some m =>
    if l<=h/\h<=m/\m<=n/\P.cellsOf e≠0/\(mx.isSome=true->hi.isSome=true) then some (.lst (h-l) ((cs.drop (l*P.cellsOf e)).take ((h-l)*P.cellsOf e))) else none
   | _,_,_=>none
  | .sl o ver sz off n =>
   match P.underlying t,jQ n hi with
   | some (.slice e),some h=>if l<=h/\h<=n/\P.cellsOf e≠0/\sz=P.cellsOf e/\mx.isSome=false then some (.sl o ver sz (off+l*sz) (h-l)) else none
   | _,_=>none
  | .sc (.string s) =>
   match P.underlying t,jQ s.size hi with
   | some .string,some h=>if l<=h/\h<=s.size/\mx.isSome=false then some (.sc (.string (s.extract l h))) else none
   | _,_=>none
  | _=>none
theorem JC {P:Program} {C:Ctx} {S:Store} {w:World} {n cap l h m:Nat} {lo hi mx:Option PV} {ulo uhi umx:Option Value} (isSlice:Bool) (hl:jQ 0 lo=some l) (hh:jQ n hi=some h)
  (hm:jQ cap mx=some m) (h1:l<=h) (h2:h<=m) (h3:m<=cap) (hmh:mx.isSome=true->hi.isSome=true)
  (rlo:(∀p,lo=some p->∃v,ulo=some v/\Rel C S w p v)/\(lo=none->ulo=none)) (rhi:(∀p,hi=some p->∃v,uhi=some v/\Rel C S w p v)/\(hi=none->uhi=none))
  (rmx:(∀p,mx=some p->∃v,umx=some v/\Rel C S w p v)/\(mx=none->umx=none)) :
  (Instr.sliceBounds isSlice n cap ulo uhi umx).run P w=.ok (l,h,m) w:=by
 unfold Instr.sliceBounds
 have hM:∀code,(umx=none/\m=cap)\/∃v,umx=some v/\(Instr.sliceBound v cap code).run P w=.ok m w:=fun code=>X8 hm rmx.1 rmx.2 h3 code
 have hH:∀y code,h<=y->(uhi=none/\h=n)\/∃v,uhi=some v/\(Instr.sliceBound v y code).run P w=.ok h w:=fun y code hy=>X8 hh rhi.1 rhi.2 hy code
 have hL:∀code,(ulo=none/\l=0)\/∃v,ulo=some v/\(Instr.sliceBound v h code).run P w=.ok l w:=fun code=>X8 hl rlo.1 rlo.2 h1 code
 have low:∀code,(match ulo with | some v=>(do let l <-Instr.sliceBound v h code;pure (l,h,m)) | none=>(do let l <-pure 0;pure (l,h,m)):Sem (Nat × Nat × Nat)).run P w=.ok (l,h,m) w:=by
  intro code
  rcases hL code with ⟨rfl,rfl⟩ | ⟨v,rfl,hv⟩
  ·rfl
  ·simp only [Sem.run_bind,hv,Result.andThen_ok,Sem.run_pure]
 rcases hM (if isSlice then .slice3Acap else .slice3Alen) with ⟨rfl,rfl⟩ | ⟨vm,rfl,hvm⟩
 ·rcases hH m (if isSlice then .sliceAcap else .sliceAlen) h2 with ⟨rfl,rfl⟩ | ⟨vh,rfl,hvh⟩
  ·exact low _
  ·simp only [pure_bind]
   rw [Sem.run_bind,hvh]
   exact low _
 ·rcases hH m .slice3B h2 with ⟨rfl,rfl⟩ | ⟨vh,rfl,hvh⟩
  ·have:hi.isSome=true:=hmh (by
    cases hq:mx with
    | none=>have:=rmx.2 hq;cases this
    | some _=>rfl)
   cases hq:hi with
   | none=>rw [hq] at this;cases this
   | some p=>obtain ⟨v,e,_⟩:=rhi.1 p hq;cases e
  ·simp only
   rw [Sem.run_bind,hvm]
   simp only [Result.andThen_ok]
   rw [Sem.run_bind,hvh]
   exact low _
theorem Zfk {n b:Nat} {x:Option PV} (y:Nat) (h:jQ n x=some b):x≠none->jQ y x=some b:=by
 intro hx
 unfold jQ at h ⊢
 split at h
 ·exact absurd rfl hx
 ·exact h
 ·cases h
theorem Za0 {hb l n:Nat} (h:hb<=n) (hne:hb-l≠0):n≠0:=by omega
theorem Za1 {hb l n cap:Nat} (h:hb<=n) (k:n<=cap) (hne:hb-l≠0):¬cap=l:=by omega
theorem Zfl {P:Program} {C:Ctx} {S:Store} {w:World} {t:TypeId} {x p:PV} {lo hi mx:Option PV} {u:Value} {ulo uhi umx:Option Value} (h:JB P t x lo hi mx=some p) (hu:Rel C S w x u)
  (rlo:(∀p,lo=some p->∃v,ulo=some v/\Rel C S w p v)/\(lo=none->ulo=none)) (rhi:(∀p,hi=some p->∃v,uhi=some v/\Rel C S w p v)/\(hi=none->uhi=none))
  (rmx:(∀p,mx=some p->∃v,umx=some v/\Rel C S w p v)/\(mx=none->umx=none)):∃r,(Instr.sliceAt t u ulo uhi umx).run P w=.ok r w/\Rel C S w p r:=by
 unfold JB at h
 split at h
 ·cases h
 rename_i l hl
 split at h
 ·rename_i n cs
  split at h
  ·rename_i e hb m ht hh hm
   split at h
   ·rename_i hc
    obtain ⟨c1,c2,c3,c4,c5⟩:=hc
    cases h
    have sz:=x9 c4 w
    have main:∀(a:Option Addr) (cap:Nat),n<=cap->∃m',hb<=m'/\(Instr.sliceAt t (.slice a n cap) ulo uhi umx).run P w=.ok (.slice (if m'=l then a else a.map (·.add (l*P.cellsOf e))) (hb-l) (m'-l)) w:=by
     intro a cap hcap
     cases hq:mx with
     | none =>
      have hm2:jQ cap (none:Option PV)=some cap:=rfl
      have:=JC (P:=P) true hl hh (hq ▸ hm2:jQ cap mx=some cap) c1 (by omega) (Nat.le_refl _) c5 rlo rhi rmx
      refine ⟨cap,by omega,?_⟩
      simp only [Instr.sliceAt,Sem.run_bind,run_underlying ht,Result.andThen_ok,Instr.slice,this,sz,Sem.run_pure]
     | some pm =>
      have hm2:=Zfk cap hm (by rw [hq];simp)
      have:=JC (P:=P) (n:=n) (cap:=cap) true hl hh hm2 c1 c2 (by omega) c5 rlo rhi rmx
      refine ⟨m,by omega,?_⟩
      simp only [Instr.sliceAt,Sem.run_bind,run_underlying ht,Result.andThen_ok,Instr.slice,this,sz,Sem.run_pure]
    cases hu with
    | lst0 =>
     obtain ⟨m',hm',hr⟩:=main _ _ (Nat.zero_le _)
     have:hb-l=0:=by omega
     refine ⟨_,hr,?_⟩
     rw [this]
     simp only [List.drop_nil,List.take_nil]
     exact .lst0
    | lst1 hn hmm hbl hM hs h1 hr =>
     rename_i cap b o c ee fz
     obtain ⟨m',hm',hrr⟩:=main _ _ hn
     refine ⟨_,hrr,?_⟩
     obtain ⟨g1,g2,g3⟩:=Qm (k:=l*P.cellsOf e) hs h1 hr
     by_cases hml:m'=l
     ·have:hb-l=0:=by omega
      rw [this]
      simp only [Nat.zero_mul,List.take_zero]
      exact .lst0
     ·rw [if_neg hml]
      simp only [Option.map_some,Addr.add_plain]
      refine .lst1 (by omega) (by omega) hbl hM (fun hne=>?_) (fun i v hi hv=>?_) (fun i q v hq hv=>?_)
      ·have:=g1 (by intro e0;rw [e0] at hne;simp at hne)
       simp only [List.length_take];omega
      ·simp only [List.length_take] at hi
       exact g2 i v (by omega) hv
      ·by_cases hlt:i<(hb-l)*P.cellsOf e
       ·rw [List.getElem?_take_of_lt hlt] at hq
        exact g3 i q v hq hv
       ·rw [List.getElem?_eq_none (by simp;omega)] at hq;cases hq
   ·cases h
  ·cases h
 ·rename_i o ver sz off n
  split at h
  ·rename_i e hb ht hh
   split at h
   ·rename_i hc
    obtain ⟨c1,c2,c3,rfl,c5⟩:=hc
    cases h
    have hmx:mx=none:=by cases mx with | none=>rfl | some _=>cases c5
    cases hu with
    | sl h1 h2 h3 =>
     obtain ⟨a,cap,rfl,k1,k2,k3,k4⟩:=h1
     have hm2:jQ cap mx=some cap:=by rw [hmx];rfl
     have hsb:=JC (P:=P) (n:=n) (cap:=cap) true hl hh hm2 c1 (by omega) (Nat.le_refl _) (by rw [hmx];simp) rlo rhi rmx
     refine ⟨.slice (if cap=l then a else a.map (·.add (l*P.cellsOf e))) (hb-l) (cap-l),?_,?_⟩
     ·simp only [Instr.sliceAt,Sem.run_bind,run_underlying ht,Result.andThen_ok,Instr.slice,hsb,x9 c3,Sem.run_pure]
     ·have e1:hb-l<=cap-l:=by omega
      have e2:hb-l<=qV:=Nat.le_trans (Nat.sub_le _ _) (Nat.le_trans c2 k2)
      have e3:cap-l<=maxLen:=Nat.le_trans (Nat.sub_le _ _) k3
      clear hsb hm2
      refine .sl ⟨_,_,rfl,e1,e2,e3,fun hne=>?_⟩ h2 fun v0 hv0=>?_
      ·obtain ⟨b,f,rfl⟩:=k4 (Za0 c2 hne)
       rw [if_neg (Za1 c2 k1 hne)]
       exact ⟨_,_,by simp [Addr.add_plain];exact ⟨rfl,rfl⟩⟩
      ·obtain ⟨g1,g2⟩:=h3 v0 hv0
       refine ⟨g1,fun hq=>?_⟩
       rcases g2 hq with ⟨q1,q2,q3,q4⟩ | ⟨b,k',a',cap',q1,q2,q3,q4⟩
       ·subst q2
        have hl0:l=0:=by omega
        have hb0:hb=0:=by omega
        subst hl0;subst hb0
        cases q4
        exact .inl ⟨q1,rfl,by omega,by simp⟩
       ·cases q2
        refine .inr ⟨b,k',_,_,q1,rfl,fun hoff=>?_,fun hne=>?_⟩
        ·have hl0:l=0:=by
          rcases Nat.eq_zero_or_pos l with h | h
          ·exact h
          ·have:0<l*P.cellsOf e:=Nat.mul_pos h (Nat.pos_of_ne_zero c3)
           omega
         subst hl0
         obtain ⟨z1,z2⟩:=q3 (by omega)
         subst z1
         refine ⟨?_,by simpa using z2⟩
         by_cases hc0:cap=0
         ·simp [hc0]
         ·simp [hc0,Addr.add_plain]
        ·have:=q4 (Za0 c2 hne)
         subst this
         rw [if_neg (Za1 c2 k1 hne)]
         simp [Addr.add_plain]
   ·cases h
  ·cases h
 ·rename_i s
  split at h
  ·rename_i hb ht hh
   split at h
   ·rename_i hc
    obtain ⟨c1,c2,c5⟩:=hc
    cases h
    have hmx:mx=none:=by cases mx with | none=>rfl | some _=>cases c5
    have humx:umx=none:=rmx.2 hmx
    subst humx
    cases hu
    have hm2:jQ s.size mx=some s.size:=by rw [hmx];rfl
    have hsb:=JC (P:=P) (n:=s.size) (cap:=s.size) (umx:=none) false hl hh hm2 c1 c2 (Nat.le_refl _) (by rw [hmx];simp) rlo rhi rmx
    refine ⟨_,?_,.sc _⟩
    simp [Instr.sliceAt,run_underlying ht,Instr.slice,hsb]
   ·cases h
  ·cases h
 ·cases h
open Go
def JD (P:Program) (t:TypeId) (x:PV):Option PV :=
 match P.underlying t with
 | some (.slice _) =>
  match x with
  | .lst n _=>some (.sc (.int .i64 n))
  | .nl _ _ n _=>some (.sc (.int .i64 n))
  | .sl _ _ _ _ n=>some (.sc (.int .i64 n))
  | .sc (.slice _ n _)=>some (.sc (.int .i64 n))
  | _=>none
 | some .string =>
  match x with
  | .sc (.string s)=>some (.sc (.int .i64 s.size))
  | _=>none
 | _=>none
def JE (op:UnOp) (x:PV):Option PV :=
 match x with
 | .sc (.bool b)=>match op with | .not=>some (.sc (.bool (!b))) | _=>none
 | .sc (.int k n)=>match op with | .neg=>some (.sc (.int k (k.wrap (0-n)))) | _=>none
 | _=>none
def JF (P:Program) (src dst:TypeId) (x:PV):Option PV :=
 match P.underlying src with
 | none=>none
 | some _ =>
  match x with
  | .sc (.int _ n)=>match P.underlying dst with | some (.int k)=>some (.sc (.int k (k.wrap n))) | _=>none
  | .sc (.string s)=>match P.underlying dst with | some .string=>some (.sc (.string s)) | _=>none
  | _=>none
def JG (P:Program) (t:TypeId) (x i:PV):Option PV :=
 match i with
 | .sc (.int _ n) =>
  match P.underlying t with
  | some (.array len e) =>
   match x with
   | .agg cs=>if (0<=n/\n<(len:Int))/\P.cellsOf e≠0/\(P.underlying e).isSome=true then wV P e (cs.drop (n.toNat * P.cellsOf e)) else none
   | _=>none
  | some .string =>
   match x with
   | .sc (.string s)=>if 0<=n then (s[n.toNat]?).map fun b=>.sc (.int .u8 b.toNat) else none
   | _=>none
  | _=>none
 | _=>none
def JH (P:Program) (t:TypeId) (x:PV) (f:Nat):Option PV :=
 match P.underlying t with
 | some (.struct fs) =>
  match fs[f]? with
  | some fd=>if (P.underlying fd.type).isSome=true then (match x with | .agg cs=>wV P fd.type (cs.drop fd.offset) | _=>none) else none
  | none=>none
 | _=>none
def X9 (x:PV):Option PV :=
 match x with
 | .ptr _ _ _=>some x
 | .ip _=>some x
 | .fn (.func _) _ _=>some x
 | _=>none
def Yp (f:Int->Int->Int) (x y:PV):Option PV :=
 match x,y with
 | .sc (.int k a),.sc (.int _ b)=>some (.sc (.int k (f a b)))
 | _,_=>none
def vk (x y:Int):Int:=if y<x then y else x
def j4 (x y:Int):Int:=if x<y then y else x
def JJ (P:Program) (F:Nat->PV) (c:Call):Option PV :=
 match c.callee with
 | .builtin .len=>match c.args.toList,c.argTypes.toList with | [x],[t]=>JD P t (ev F x) | _,_=>none
 | .builtin .min=>match c.args.toList with | [x,y]=>Yp vk (ev F x) (ev F y) | _=>none
 | .builtin .max=>match c.args.toList with | [x,y]=>Yp j4 (ev F x) (ev F y) | _=>none
 | _=>none
def vn (P:Program):List Field->List PV->List PV->Option Bool
 | [],[],[]=>some true
 | f :: fs,.sc (.int k a) :: cs,.sc (.int k' b) :: ds =>
  match P.underlying f.type with
  | some (.int _)=>if k=k' then (vn P fs cs ds).map (a == b && ·) else none
  | _=>none
 | f :: fs,.sc (.bool a) :: cs,.sc (.bool b) :: ds =>
  match P.underlying f.type with
  | some .bool=>(vn P fs cs ds).map (a == b && ·)
  | _=>none
 | _,_,_=>none
def JK:Nat->List Field->Bool
 | _,[]=>true
 | i, f :: fs => f.name != "_" && f.offset == i && JK (i + 1) fs
def Qn (P:Program) (t:TypeId):Bool:=!P.stoodInHeld t && !P.eqGuardType P.depth t && JK 0 (P.fieldsOf t).toList
def JL (P:Program) (op:BinOp) (t:TypeId) (x y:PV):Option PV :=
 match x,y with
 | .agg cs,.agg ds =>
  match P.underlying t with
  | some (.struct fs) =>
   if Qn P t=true then
    match vn P fs.toList cs ds,op with
    | some b,.eql=>some (.sc (.bool b))
    | some b,.neq=>some (.sc (.bool (!b)))
    | _,_=>none
   else none
  | _=>none
 | _,_=>none
theorem Za2 {P:Program} {C:Ctx} {S:Store} {w:World} {CS DS:List PV} {xs ys:Array Value} (hx:Rel C S w (.agg CS) (.agg xs)) (hy:Rel C S w (.agg DS) (.agg ys)) (d:Nat) :
  ∀(fs:List Field) (i:Nat) (b:Bool),JK i fs=true->vn P fs (CS.drop i) (DS.drop i)=some b->(Op.eqFields (d+1) xs ys fs).run P w=.ok b w
 | [],i,b,_,h=>by
  generalize CS.drop i=cs at h
  generalize DS.drop i=ds at h
  cases cs with
  | nil =>
   cases ds with
   | nil=>simp [vn] at h;subst h;simp [Op.eqFields]
   | cons=>simp [vn] at h
  | cons=>cases ds<;>simp [vn] at h
 | f :: fs,i,b,hok,h=>by
  simp only [JK,Bool.and_eq_true,bne_iff_ne,beq_iff_eq] at hok
  obtain ⟨⟨hn,rfl⟩,hok⟩:=hok
  have step:∀(p q:PV) (ps qs:List PV),CS.drop f.offset=p :: ps->DS.drop f.offset=q :: qs->CS.drop (f.offset+1)=ps/\DS.drop (f.offset+1)=qs:=by
   intro p q ps qs h1 h2
   have e1:CS.drop (f.offset+1)=(CS.drop f.offset).drop 1:=by rw [List.drop_drop]
   have e2:DS.drop (f.offset+1)=(DS.drop f.offset).drop 1:=by rw [List.drop_drop]
   rw [e1,e2,h1,h2];exact ⟨rfl,rfl⟩
  have fin:∀(e:TypeDesc) (p q:PV) (ps qs:List PV) (u v:Value) (c b':Bool),P.underlying f.type=some e->Yo (some e)=false->CS.drop f.offset=p :: ps->DS.drop f.offset=q :: qs->(∀r,Rel C S w p r->r=u)->(∀r,Rel C S w q r->r=v) ->
    (Op.equalIn (d+1) f.type u v).run P w=.ok c w->vn P fs ps qs=some b'->b=(c && b')->(Op.eqFields (d+1) xs ys (f :: fs)).run P w=.ok b w:=by
   intro e p q ps qs u v c b' ht hag h1 h2 hu hv hrun hrest hb
   cases hx with
   | agg lx ox rx =>
    cases hy with
    | agg ly oy ry =>
     obtain ⟨r1,k1,k2⟩:=Jz (P:=P) (w:=w) (t:=f.type) ht lx ox rx (o:=f.offset) (p:=p) (by unfold wV;rw [ht,hag,h1];rfl)
     obtain ⟨r2,k3,k4⟩:=Jz (P:=P) (w:=w) (t:=f.type) ht ly oy ry (o:=f.offset) (p:=q) (by unfold wV;rw [ht,hag,h2];rfl)
     cases hu r1 k2
     cases hv r2 k4
     obtain ⟨g1,g2⟩:=step _ _ _ _ h1 h2
     have ih:=Za2 (.agg lx ox rx) (.agg ly oy ry) d fs (f.offset+1) b' hok (by rw [g1,g2];exact hrest)
     unfold Op.eqFields
     rw [if_pos hn]
     simp only [Sem.run_bind,k1,k3,Result.andThen_ok,hrun]
     cases c
     ·simp [hb]
     ·simp [hb,ih]
  unfold vn at h
  split at h
  ·rename_i h1 _ _ ;cases h1
  ·rename_i k a ps k' c qs h1 h2 h3
   cases h1
   split at h
   ·rename_i k2 ht
    split at h
    ·rename_i hk
     subst hk
     obtain ⟨b',hb',rfl⟩:=Option.map_eq_some_iff.1 h
     exact fin _ _ _ _ _ _ _ _ _ ht rfl h2 h3 (fun r hr=>by cases hr;rfl) (fun r hr=>by cases hr;rfl) (run_equalIn_int w d f.type k k2 a c ht) hb' rfl
    ·cases h
   ·cases h
  ·rename_i a ps c qs h1 h2 h3
   cases h1
   split at h
   ·rename_i ht
    obtain ⟨b',hb',rfl⟩:=Option.map_eq_some_iff.1 h
    exact fin _ _ _ _ _ _ _ _ _ ht rfl h2 h3 (fun r hr=>by cases hr;rfl) (fun r hr=>by cases hr;rfl) (run_equalIn_bool' w d f.type a c ht) hb' rfl
   ·cases h
  ·cases h
theorem Zfm {P:Program} {C:Ctx} {S:Store} {w:World} {op:BinOp} {t:TypeId} {x y:PV} {p:PV} {u v:Value} (X Y:Operand) (h:JL P op t x y=some p)
  (hu:Rel C S w x u) (hv:Rel C S w y v):∃r,(do eqGuard op t X Y u v;binOp op t u v:Sem Value).run P w=.ok r w/\Rel C S w p r:=by
 unfold JL at h
 split at h
 ·rename_i cs ds
  split at h
  ·rename_i fs ht
   split at h
   ·rename_i hok
    unfold Qn at hok
    simp only [Bool.and_eq_true,Bool.not_eq_true'] at hok
    obtain ⟨⟨h1,h2⟩,h3⟩:=hok
    have hf:P.fieldsOf t=fs:=by unfold Program.fieldsOf;rw [ht]
    have ht':P.underlying t=some (.struct (P.fieldsOf t)):=by rw [hf];exact ht
    have hu0:=hu
    have hv0:=hv
    cases hu with
    | agg a1 a2 a3 =>
     cases hv with
     | agg b1 b2 b3 =>
      rename_i xs ys
      have key:∀b,vn P fs.toList cs ds=some b->(Op.equalIn 10000 t (.agg xs) (.agg ys)).run P w=.ok b w:=by
       intro b hb
       show (Op.equalIn (9999+1) _ _ _).run P w=_
       rw [run_equalIn_struct w 9999 t xs ys ht' h1,hf]
       show (Op.eqFields (9998+1) xs ys fs.toList).run P w=_
       rw [hf] at h3
       exact Za2 hu0 hv0 9998 fs.toList 0 b h3 (by simpa using hb)
      split at h
      ·rename_i b hb
       cases h
       exact ⟨_,by simp only [Sem.run_bind,run_eqGuard_agg w _ t X Y xs ys h2,Result.andThen_ok,run_eql_struct,key b hb],.sc _⟩
      ·rename_i b hb
       cases h
       exact ⟨_,by simp only [Sem.run_bind,run_eqGuard_agg w _ t X Y xs ys h2,Result.andThen_ok,run_neq_struct,key b hb],.sc _⟩
      ·cases h
   ·cases h
  ·cases h
 ·cases h
def xv (P:Program) (F:Nat->PV) (o:Oper):Option PV :=
 match o.op with
 | .move x=>some (ev F x)
 | .assign x=>some (ev F x)
 | .pick c a b=>match ev F c with | .sc (.bool t)=>some (bif t then ev F a else ev F b) | _=>none
 | .build t parts=>JA P t (parts.toList.map fun x=>(x.1,ev F x.2))
 | .buildSlice t len parts =>
  match P.underlying t with
  | some (.slice e)=>(uF P e len (parts.toList.map fun x=>(x.1,ev F x.2))).map (.lst len)
  | _=>none
 | .load t x=>match ev F x with | .ip cs=>if (P.underlying t).isSome=true then wV P t cs else none | _=>none
 | .nilCheck x=>X9 (ev F x)
 | .binOp op t x y _ =>
  match Jv P op t (ev F x) (ev F y) with
  | some p=>some p
  | none=>JL P op t (ev F x) (ev F y)
 | .unOp op _ x=>JE op (ev F x)
 | .convert src dst x=>JF P src dst (ev F x)
 | .makeInterface t x=>match P.underlying t with | some (.interface _)=>none | some _=>some (.ifc t (ev F x)) | none=>none
 | .makeFunc fn first cap=>some (.fn fn (first.toList.map (ev F)) (cap.toList.map (ev F)))
 | .slice t x lo hi mx=>JB P t (ev F x) (lo.map (ev F)) (hi.map (ev F)) (mx.map (ev F))
 | .fieldAddr t x f=>Jx P t (ev F x) f
 | .field t x f=>JH P t (ev F x) f
 | .indexAddr t x i=>Jw P t (ev F x) (ev F i)
 | .index t x i=>JG P t (ev F x) (ev F i)
 | .extract t i=>match ev F t with | .tup ps=>ps[i]? | _=>none
 | .call c=>JJ P F c
 | _=>none
section
variable {P:Program} {C:Ctx} {S:Store} {w:World} {F:Nat->PV} {ρ:Operand->Value} {p:PV}
theorem Zfn {b:Bool} {x y:PV} {u v:Value} (h1:Rel C S w x u) (h2:Rel C S w y v):Rel C S w (bif b then x else y) (if b=true then u else v):=by
 cases b
 ·exact h2
 ·exact h1
theorem Zfo {t ty:TypeId} {x:PV} {u:Value} (h:JD P t x=some p) (hu:Rel C S w x u):∃r,(Builtin.len_ #[t] ty #[u]).run P w=.ok r w/\Rel C S w p r:=by
 unfold JD at h
 split at h
 ·rename_i e ht
  split at h
  ·cases h;cases hu<;>exact ⟨_,by simp [Builtin.len_,run_underlying ht];rfl,.sc _⟩
  ·cases h;cases hu<;>exact ⟨_,by simp [Builtin.len_,run_underlying ht];rfl,.sc _⟩
  ·cases h;cases hu with | sl h1=>obtain ⟨a,c,rfl,_⟩:=h1;exact ⟨_,by simp [Builtin.len_,run_underlying ht];rfl,.sc _⟩
  ·cases h;cases hu;exact ⟨_,by simp [Builtin.len_,run_underlying ht];rfl,.sc _⟩
  ·cases h
 ·rename_i ht
  split at h
  ·cases h;cases hu;exact ⟨_,by simp [Builtin.len_,run_underlying ht];rfl,.sc _⟩
  ·cases h
 ·cases h
theorem Zfp {op:UnOp} {x:PV} {u:Value} (h:JE op x=some p) (hu:Rel C S w x u):∃r,(Op.unary op u).run P w=.ok r w/\Rel C S w p r:=by
 unfold JE at h
 split at h
 ·cases hu;split at h
  ·cases h;exact ⟨_,by simp [Op.unary],.sc _⟩
  ·cases h
 ·cases hu;split at h
  ·cases h;exact ⟨_,by simp [Op.unary,Op.intArith],.sc _⟩
  ·cases h
 ·cases h
theorem Zfq {src dst:TypeId} {x:PV} {u:Value} (h:JF P src dst x=some p) (hu:Rel C S w x u):∃r,(convert src dst u).run P w=.ok r w/\Rel C S w p r:=by
 unfold JF at h
 split at h
 ·cases h
 ·rename_i d hs
  split at h
  ·cases hu;split at h
   ·rename_i k hd
    cases h
    exact ⟨_,by simp [convert,run_underlying hs,run_underlying hd,Conv.intToInt],.sc _⟩
   ·cases h
  ·cases hu;split at h
   ·rename_i hd
    cases h
    refine ⟨_,?_,.sc _⟩
    simp only [convert,Sem.run_bind,run_underlying hs,run_underlying hd,Result.andThen_ok,Sem.run_pure]
   ·cases h
  ·cases h
theorem Zfr {t:TypeId} {x i:PV} {u v:Value} (h:JG P t x i=some p) (hu:Rel C S w x u) (hv:Rel C S w i v):∃r,(Instr.index t u v).run P w=.ok r w/\Rel C S w p r:=by
 unfold JG at h
 split at h
 ·cases hv
  rename_i k n
  split at h
  ·rename_i len e ht
   split at h
   ·split at h
    ·rename_i hc
     obtain ⟨c1,c2,c3⟩:=hc
     cases hd:P.underlying e with
     | none=>rw [hd] at c3;cases c3
     | some d =>
      cases hu with
      | agg hl h1 h2 =>
       obtain ⟨r,hr,hrel⟩:=Jz hd hl h1 h2 h
       exact ⟨r,by simp [Instr.index,asIntOf,run_underlying ht,c1,x9 c2,hr],hrel⟩
    ·cases h
   ·cases h
  ·rename_i ht
   split at h
   ·cases hu
    split at h
    ·rename_i hn
     obtain ⟨b,hb,rfl⟩:=Option.map_eq_some_iff.1 h
     exact ⟨_,by simp [Instr.index,asIntOf,run_underlying ht,hn,hb],.sc _⟩
    ·cases h
   ·cases h
  ·cases h
 ·cases h
theorem Zfs {t:TypeId} {x:PV} {f:Nat} {u:Value} (h:JH P t x f=some p) (hu:Rel C S w x u):∃r,(Instr.field t u f).run P w=.ok r w/\Rel C S w p r:=by
 unfold JH at h
 split at h
 ·rename_i fs ht
  split at h
  ·rename_i fd hf
   split at h
   ·rename_i hd0
    split at h
    ·cases hd:P.underlying fd.type with
     | none=>rw [hd] at hd0;cases hd0
     | some d =>
      cases hu with
      | agg hl h1 h2 =>
       obtain ⟨r,hr,hrel⟩:=Jz hd hl h1 h2 h
       exact ⟨r,by simp [Instr.field,run_underlying ht,hf,asAgg,hr],hrel⟩
    ·cases h
   ·cases h
  ·cases h
 ·cases h
theorem Qo {l:List Operand} (hρ:∀x,Rel C S w (ev F x) (ρ x)):(l.map (ev F)).length=(l.toArray.map ρ).size/\∀(i:Nat) (c:PV) (v:Value),(l.map (ev F))[i]?=some c->(l.toArray.map ρ)[i]?=some v->Rel C S w c v:=by
 refine ⟨by simp,fun i c v hc hv=>?_⟩
 rw [List.getElem?_map,Option.map_eq_some_iff] at hc
 rw [Array.getElem?_map,Option.map_eq_some_iff] at hv
 obtain ⟨x,hx,rfl⟩:=hc
 obtain ⟨y,hy,rfl⟩:=hv
 simp only [List.getElem?_toArray] at hy
 rw [hx] at hy;cases hy
 exact hρ x
theorem Wa {x:Option Operand} (hρ:∀x,Rel C S w (ev F x) (ρ x)):(∀p,x.map (ev F)=some p->∃v,x.map ρ=some v/\Rel C S w p v)/\(x.map (ev F)=none->x.map ρ=none):=by
 cases x with
 | none=>exact ⟨fun p h=>absurd h (by simp),fun _=>rfl⟩
 | some x =>
  refine ⟨fun p h=>?_,fun h=>absurd h (by simp)⟩
  cases h
  exact ⟨_,rfl,hρ x⟩
theorem Za3 {x y:PV} {u v:Value} (hu:Rel C S w x u) (hv:Rel C S w y v) :
  (Yp vk x y=some p->∃r,(Builtin.min2 u v).run P w=.ok r w/\Rel C S w p r)/\(Yp j4 x y=some p->∃r,(Builtin.max2 u v).run P w=.ok r w/\Rel C S w p r):=by
 constructor <;>
 ·intro h
  unfold Yp at h
  split at h
  ·cases h;cases hu;cases hv
   exact ⟨_,rfl,.sc _⟩
  ·cases h
theorem Zft {o:Oper} (h:xv P F o=some p) (hS:Sim C S w) (hρ:∀x,Rel C S w (ev F x) (ρ x)) :
  ∃v w',(execOp ρ o).run P w=.ok (.value v) w'/\Rel C S w' p v/\Sim C S w'/\Step C S w C S w':=by
 have fin:(∃v,(execOp ρ o).run P w=.ok (.value v) w/\Rel C S w p v)->∃v w',(execOp ρ o).run P w=.ok (.value v) w'/\Rel C S w' p v/\Sim C S w'/\Step C S w C S w' :=
  fun ⟨v,h1,h2⟩=>⟨v,w,h1,h2,hS,.refl _ _ _⟩
 unfold xv at h
 unfold execOp at fin ⊢
 cases ho:o.op<;>simp only [ho] at h fin ⊢<;>try (cases h;done)
 case move x=>cases h;exact fin ⟨_,rfl,hρ x⟩
 case assign x=>cases h;exact fin ⟨_,rfl,hρ x⟩
 case pick c a b =>
  split at h
  ·rename_i t hc
   cases h
   have:=hρ c
   rw [hc] at this
   generalize ρ c=v at this fin ⊢
   cases this
   exact fin ⟨_,by simp [asBool],Zfn (hρ a) (hρ b)⟩
  ·cases h
 case build t parts =>
  obtain ⟨r,hr,hrel⟩:=Zfj (ev F) ρ hρ h
  refine fin ⟨r,?_,hrel⟩
  have e:(parts.map fun (x:Nat × Operand)=>(x.1,ρ x.2))=(parts.toList.map fun x=>(x.1,ρ x.2)).toArray:=by apply Array.toList_inj.1;simp
  simp only [Sem.run_bind]
  rw [e,hr];rfl
 case buildSlice t len parts =>
  split at h
  ·rename_i e ht
   obtain ⟨cs,hl,rfl⟩:=Option.map_eq_some_iff.1 h
   obtain ⟨vs,hr,hrel,hsz⟩:=ZaZ ht (ev F) ρ hρ hl
   have eq:(parts.map fun (x:Nat × Operand)=>(x.1,ρ x.2))=(parts.toList.map fun x=>(x.1,ρ x.2)).toArray:=by apply Array.toList_inj.1;simp
   obtain ⟨g1,g2,g3⟩:=hS.alloc (.cells vs e)
   refine ⟨_,_,by simp only [Sem.run_bind];rw [eq,hr];rfl,?_,g1,g2⟩
   have hlen:len<=qV:=by
    unfold uF at hl
    split at hl
    ·cases hl
    ·split at hl
     ·rename_i hc
      obtain ⟨_,_,c3,c4⟩:=hc
      have:len*1<=len*P.cellsOf e:=Nat.mul_le_mul_left _ (Nat.pos_of_ne_zero c3)
      unfold qV;omega
     ·cases hl
   obtain ⟨r1,r2,r3⟩:=hrel.mono g2
   exact .lst1 (Nat.le_refl _) hlen (Zd _ _) g3 (fun _=>by omega) (fun i v _ hv=>r2 i v (by simpa using hv)) (fun i q v hq hv=>r3 i q v hq (by simpa using hv))
  ·cases h
 case load t x =>
  split at h
  ·rename_i cs hx
   split at h
   ·rename_i hd0
    cases hd:P.underlying t with
    | none=>rw [hd] at hd0;cases hd0
    | some d =>
     have:=hρ x
     rw [hx] at this
     generalize ρ x=v at this fin ⊢
     cases this with
     | ip hb hM hs h1 hr =>
      obtain ⟨r,hrr,hrel⟩:=X5 hd hb hs h1 hr h
      exact fin ⟨r,by simp [Instr.loadAt,Instr.sureAddr,hrr],hrel⟩
   ·cases h
  ·cases h
 case nilCheck x =>
  have hx:=hρ x
  unfold X9 at h
  generalize ρ x=v at hx fin ⊢
  split at h
  ·rename_i he
   cases h;rw [he] at hx fin ⊢
   cases hx with
   | ptr h1 h2 h3=>obtain ⟨a,rfl⟩:=h1;exact fin ⟨_,rfl,.ptr ⟨_,rfl⟩ h2 h3⟩
  ·rename_i he
   cases h;rw [he] at hx fin ⊢
   cases hx with
   | ip a b c d e=>exact fin ⟨_,rfl,.ip a b c d e⟩
  ·rename_i he
   cases h;rw [he] at hx fin ⊢
   cases hx with
   | fn a b c d=>exact fin ⟨_,rfl,.fn a b c d⟩
  ·cases h
 case binOp op t x y ty =>
  split at h
  ·rename_i p' hp
   cases h
   obtain ⟨r,hr,hrel⟩:=Zfe (w:=w) x y hp (hρ x) (hρ y)
   refine fin ⟨r,?_,hrel⟩
   rw [Sem.run_bind,hr];rfl
  ·obtain ⟨r,hr,hrel⟩:=Zfm (w:=w) x y h (hρ x) (hρ y)
   refine fin ⟨r,?_,hrel⟩
   rw [Sem.run_bind,hr];rfl
 case unOp op t x =>
  obtain ⟨r,hr,hrel⟩:=Zfp (P:=P) h (hρ x)
  exact fin ⟨r,by rw [Sem.run_bind,hr];rfl,hrel⟩
 case convert src dst x =>
  obtain ⟨r,hr,hrel⟩:=Zfq h (hρ x)
  exact fin ⟨r,by rw [Sem.run_bind,hr];rfl,hrel⟩
 case makeInterface t x =>
  split at h
  ·cases h
  ·rename_i d hne hd
   cases h
   refine fin ⟨_,?_,.ifc (hρ x)⟩
   simp only [Instr.makeInterface,Sem.run_bind,run_underlying hd,Result.andThen_ok]
   cases d<;>first | rfl | exact absurd hd (hne _)
  ·cases h
 case makeFunc fn first cap =>
  cases h
  have h1:=Qo (l:=first.toList) hρ
  have h2:=Qo (l:=cap.toList) hρ
  simp only [Array.toArray_toList] at h1 h2
  exact fin ⟨_,rfl,.fn h1.1 h2.1 h1.2 h2.2⟩
 case slice t x lo hi mx =>
  obtain ⟨r,hr,hrel⟩:=Zfl h (hρ x) (Wa hρ) (Wa hρ) (Wa hρ)
  exact fin ⟨r,by rw [Sem.run_bind,hr];rfl,hrel⟩
 case fieldAddr t x f =>
  obtain ⟨r,hr,hrel⟩:=Zfg h (hρ x)
  exact fin ⟨r,by rw [Sem.run_bind,hr];rfl,hrel⟩
 case field t x f =>
  obtain ⟨r,hr,hrel⟩:=Zfs h (hρ x)
  exact fin ⟨r,by rw [Sem.run_bind,hr];rfl,hrel⟩
 case indexAddr t x i =>
  obtain ⟨r,hr,hrel⟩:=Zff h (hρ x) (hρ i)
  exact fin ⟨r,by rw [Sem.run_bind,hr];rfl,hrel⟩
 case index t x i =>
  obtain ⟨r,hr,hrel⟩:=Zfr h (hρ x) (hρ i)
  exact fin ⟨r,by rw [Sem.run_bind,hr];rfl,hrel⟩
 case extract t i =>
  split at h
  ·rename_i ps hx
   have:=hρ t
   rw [hx] at this
   generalize ρ t=v at this fin ⊢
   cases this with
   | tup hl hr =>
    rename_i vs
    obtain ⟨hi,_⟩:=List.getElem?_eq_some_iff.1 h
    have hvi:vs[i]?=some (vs[i]'(by omega)):=by simp
    exact fin ⟨_,by simp [Instr.extract,hvi],hr i p _ h hvi⟩
  ·cases h
 case call c =>
  unfold JJ at h
  split at h
  ·rename_i hc
   split at h
   ·rename_i x t hx ht
    have ex:c.args=#[x]:=by apply Array.toList_inj.1;simpa using hx
    have et:c.argTypes=#[t]:=by apply Array.toList_inj.1;simpa using ht
    obtain ⟨r,hr,hrel⟩:=Zfo (ty:=o.type) h (hρ x)
    refine fin ⟨r,?_,hrel⟩
    simp only [resolve,hc,invoke,builtin,ex,et,Sem.run_bind,Sem.run_pure,Result.andThen_ok,List.map_toArray,List.map_cons,List.map_nil]
    rw [hr];rfl
   ·cases h
  ·rename_i hc
   split at h
   ·rename_i x y hx
    have ex:c.args=#[x,y]:=by apply Array.toList_inj.1;simpa using hx
    obtain ⟨r,hr,hrel⟩:=(Za3 (P:=P) (hρ x) (hρ y)).1 h
    refine fin ⟨r,?_,hrel⟩
    simp only [resolve,hc,invoke,builtin,ex,Sem.run_bind,Sem.run_pure,Result.andThen_ok,List.map_toArray,List.map_cons,List.map_nil,Builtin.min_,List.foldlM,hr]
   ·cases h
  ·rename_i hc
   split at h
   ·rename_i x y hx
    have ex:c.args=#[x,y]:=by apply Array.toList_inj.1;simpa using hx
    obtain ⟨r,hr,hrel⟩:=(Za3 (P:=P) (hρ x) (hρ y)).2 h
    refine fin ⟨r,?_,hrel⟩
    simp only [resolve,hc,invoke,builtin,ex,Sem.run_bind,Sem.run_pure,Result.andThen_ok,List.map_toArray,List.map_cons,List.map_nil,Builtin.max_,List.foldlM,hr]
   ·cases h
  ·cases h
end
open Go
structure Rd where
 round:Option Nat
 V:Ctx->Store->World->Prop
 keep:∀{C C':Ctx} {S S':Store} {w w':World},Step C S w C' S' w'->V C S w->V C' S' w'
def wD:Rd:=⟨none,fun _ _ _=>True,fun _ _=>trivial⟩
def Fe (r:Rd):Fence:={ Fence.wide with round:=r.round }
structure St (r:Rd) (C:Ctx) (S:Store) (w:World) (N:Nat) (F:Nat->PV) (a:Act):Prop where
 sim:Sim C S w
 size:a.tmps.size=N
 fr:∀i,Rel C S w (F i) (a.tmps.getD i undef)
 v:r.V C S w
theorem St.ev {r:Rd} {C:Ctx} {S:Store} {w:World} {N:Nat} {F:Nat->PV} {a:Act} (h:St r C S w N F a) (x:Operand):Rel C S w (ev F x) (a.eval x):=by
 cases x with
 | tmp t=>exact h.fr t
 | const v=>exact Js v
 | global g=>exact .sc _
 | func f=>exact .fn rfl rfl (by simp) (by simp)
theorem Zfu (a:Act) (d:Nat) (v:Value) (hd:d<a.tmps.size) (i:Nat):(a.put (some d) v).tmps.getD i undef=if i=d then v else a.tmps.getD i undef:=by
 simp only [Act.put,Array.getD_eq_getD_getElem?]
 rw [Array.getElem?_setIfInBounds]
 by_cases h:i=d
 ·subst h;simp [hd]
 ·rw [if_neg h,if_neg (fun e=>h e.symm)]
theorem St.put {r:Rd} {C C':Ctx} {S S':Store} {w w':World} {N:Nat} {F:Nat->PV} {a:Act} (h:St r C S w N F a) (st:Step C S w C' S' w') (hs:Sim C' S' w') {d:Option Nat} (hd:∀x,d=some x->x<N) {p:PV} {v:Value}
  (hr:Rel C' S' w' p v):St r C' S' w' N (zT F d p) (a.put d v):=by
 cases d with
 | none=>exact ⟨hs,h.size,fun i=>(h.fr i).mono st,r.keep st h.v⟩
 | some d =>
  have hlt:d<a.tmps.size:=by rw [h.size];exact hd d rfl
  refine ⟨hs,by simp [Act.put,h.size],fun i=>?_,r.keep st h.v⟩
  rw [Zfu a d v hlt]
  simp only [zT,jZ]
  split
  ·exact hr
  ·exact (h.fr i).mono st
def gd (ops:Array Oper) (F:Nat->PV) (o:Oper):Option Bool :=
 match o.guard with
 | none=>some true
 | some (j,want) =>
  match (ops[j]?).bind (·.dst) with
  | none=>some false
  | some d=>match F d with
   | .sc v=>match v with
    | .bool b=>some (b == want)
    | _=>some false
   | _=>none
theorem Ze {r:Rd} {ops:Array Oper} {C:Ctx} {S:Store} {w:World} {N:Nat} {F:Nat->PV} {a:Act} {o:Oper} {b:Bool} (h:St r C S w N F a) (hg:gd ops F o=some b):Region.wanted o (yielded ops a.tmps)=b:=by
 unfold gd at hg
 unfold Region.wanted
 split at hg
 ·rename_i hn;rw [hn];cases hg;rfl
 ·rename_i j want hn
  rw [hn]
  simp only
  split at hg
  ·rename_i hd
   cases hg
   simp [yielded,hd]
  ·rename_i d hd
   have hr:=h.fr d
   split at hg
   ·rename_i v hv
    rw [hv] at hr
    generalize hq:a.tmps.getD d undef=u at hr
    cases hr
    rw [Array.getD_eq_getD_getElem?] at hq
    split at hg
    ·rename_i b'
     cases hg
     cases hx:a.tmps[d]? with
     | none=>rw [hx] at hq;cases hq
     | some y =>
      rw [hx] at hq
      simp only [Option.getD_some] at hq
      subst hq
      simp only [yielded,hd,Option.bind_some,hx]
      cases b'<;>cases want<;>rfl
    ·rename_i hne
     cases hg
     cases hx:a.tmps[d]? with
     | none=>simp [yielded,hd,hx]
     | some y =>
      rw [hx] at hq
      simp only [Option.getD_some] at hq
      subst hq
      simp only [yielded,hd,Option.bind_some,hx]
      cases y<;>first | rfl | exact absurd rfl (hne _)
   ·cases hg
def vp (P:Program) (t:TypeId) (S:Store) (x:PV):Option PV :=
 match x with
 | .ptr o ver off =>
  match S o with
  | .cells v _ cs=>if v=ver/\(P.underlying t).isSome=true then wV P t (cs.drop off) else none
  | _=>none
 | .ip cs=>if (P.underlying t).isSome=true then wV P t cs else none
 | _=>none
theorem Za4 {P:Program} {C:Ctx} {S:Store} {w:World} {t:TypeId} {x p:PV} {u:Value} (h:vp P t S x=some p) (hS:Sim C S w) (hu:Rel C S w x u):∃r,(Instr.loadAt t u).run P w=.ok r w/\Rel C S w p r:=by
 unfold vp at h
 split at h
 ·rename_i o ver off
  split at h
  ·rename_i v e cs hs
   split at h
   ·rename_i hc
    obtain ⟨rfl,hd0⟩:=hc
    cases hd:P.underlying t with
    | none=>rw [hd] at hd0;cases hd0
    | some d =>
     cases hu with
     | ptr h1 h2 h3 =>
      obtain ⟨b,k,hl,rfl⟩:=(h3 v (by rw [hs];rfl)).2 rfl
      rcases hS.cells o v e cs hs with ⟨hn,_⟩ | ⟨b',k',c,g1,g2,g3,g4,g5,g6⟩
      ·rw [hn] at hl;cases hl
      ·rw [g1] at hl;cases hl
       obtain ⟨q1,q2,q3⟩:=Qm (k:=off) (o:=0) (c:=c) (cs:=cs) (fun _=>by omega) (fun i v hi hv=>g5 i v hi (by simpa using hv)) (fun i q v hq hv=>g6 i q v hq (by simpa using hv))
       rw [Nat.zero_add] at q1 q2 q3
       obtain ⟨r,hr,hrel⟩:=X5 (P:=P) (b:=b) hd g2 q1 q2 q3 h
       exact ⟨r,by simp [Instr.loadAt,Instr.sureAddr,hr],hrel⟩
   ·cases h
  ·cases h
 ·split at h
  ·rename_i hd0
   cases hd:P.underlying t with
   | none=>rw [hd] at hd0;cases hd0
   | some d =>
    cases hu with
    | ip hb hM hs h1 hr =>
     obtain ⟨r,hrr,hrel⟩:=X5 hd hb hs h1 hr h
     exact ⟨r,by simp [Instr.loadAt,Instr.sureAddr,hrr],hrel⟩
  ·cases h
 ·cases h
def yb (cs:List PV) (off:Nat) (ds:List PV):List PV:=cs.take off++ds++cs.drop (off+ds.length)
def Yq (P:Program) (t:TypeId) (S:Store) (x y:PV):Option Store :=
 match x with
 | .ptr o ver off =>
  match S o with
  | .cells v e cs=>if v=ver/\y.cells.length=P.cellsOf t/\P.cellsOf t≠0/\off+y.cells.length<=cs.length/\y.fit=true then some (S.set o (.cells v e (yb cs off y.cells))) else none
  | _=>none
 | _=>none
theorem Zfv {P:Program} {C:Ctx} {S S':Store} {w:World} {t:TypeId} {x y:PV} {u v:Value} (h:Yq P t S x y=some S') (hS:Sim C S w) (hu:Rel C S w x u) (hv:Rel C S w y v) :
  ∃w' C',(Instr.storeAt t u v).run P w=.ok () w'/\Sim C' S' w'/\Step C S w C' S' w':=by
 unfold Yq at h
 split at h
 ·rename_i o ver off
  split at h
  ·rename_i vv e cs hs
   split at h
   ·rename_i hc
    obtain ⟨rfl,c1,c2,c3,c4⟩:=hc
    cases h
    cases hu with
    | ptr h1 h2 h3 =>
     obtain ⟨b,k,hl,rfl⟩:=(h3 vv (by rw [hs];rfl)).2 rfl
     rcases hS.cells o vv e cs hs with ⟨hn,_⟩ | ⟨b',k',c,g1,g2,g3,g4,g5,g6⟩
     ·rw [hn] at hl;cases hl
     ·rw [g1] at hl;cases hl
      obtain ⟨r1,r2,r3⟩:=hv.cells' c4
      have hone:∀z∈v.cells.toList,z.oneCell'=true:=by
       intro z hz
       obtain ⟨i,hi⟩:=List.getElem?_of_mem hz
       exact r2 i z (by rw [<-Array.getElem?_toList];exact hi)
      have hfit:off+0+v.cells.toList.length<=c.size:=by simp only [Array.length_toList];omega
      have hrun:=run_storeCells_at P b off e v.cells.toList 0 c w g2 hfit hone
      have hlen:v.cells.toList.length=y.cells.length:=by simp [r1]
      simp only [Nat.add_zero] at hrun
      generalize hw':w.setRow b (c.toList.take off++v.cells.toList++c.toList.drop (off+v.cells.toList.length)).toArray=w' at hrun
      have hheap:w'.heap[b]?=some (.cells (c.toList.take off++v.cells.toList++c.toList.drop (off+v.cells.toList.length)).toArray e (0,0)):=by
       rw [<-hw'];exact setRow_heap w b c _ e _ g2
      have hgr:w.grownBy w' (some b)/\w.drawn<=w'.drawn:=by
       rw [<-hw']
       exact ⟨⟨rfl,rfl,rfl,by simp [World.setRow],fun j hj hne=>setRow_other w b j _ (fun e=>hne (by rw [e]))⟩,Nat.le_refl _⟩
      have hsize:(c.toList.take off++v.cells.toList++c.toList.drop (off+v.cells.toList.length)).toArray.size=k:=by
       simp;omega
      obtain ⟨t1,t2⟩:=hS.turn (l:=C.loc o) (ver':=vv) (cs':=yb cs off y.cells) hs (Nat.le_refl _) (fun _=>rfl) (by rw [g1];exact hgr)
       (.inr ⟨b,k,_,g1,.inr (by rw [g1];rfl),hheap,hsize,by simp [yb];omega,fun i z hi hz=>by
         rw [List.getElem?_toArray] at hz
         by_cases q1:i<off
         ·rw [List.append_assoc,List.getElem?_append_left (by simp;omega),List.getElem?_take_of_lt q1] at hz
          exact g5 i z (by omega) (by rw [<-Array.getElem?_toList];exact hz)
         ·by_cases q2:i<off+v.cells.toList.length
          ·rw [List.append_assoc,List.getElem?_append_right (by simp;omega),List.length_take,Nat.min_eq_left (by simp;omega),List.getElem?_append_left (by omega)] at hz
           exact r2 _ z (by rw [<-Array.getElem?_toList];exact hz)
          ·rw [List.getElem?_append_right (by simp at q2 ⊢;omega),List.length_append,List.length_take,Nat.min_eq_left (by simp;omega),List.getElem?_drop] at hz
           have:off+v.cells.toList.length+(i-(off+v.cells.toList.length))=i:=by omega
           rw [this] at hz
           have hi':i<cs.length:=by simp [yb] at hi;omega
           exact g5 i z hi' (by rw [<-Array.getElem?_toList];exact hz),
        fun i p z hp hz=>by
         rw [List.getElem?_toArray] at hz
         unfold yb at hp
         by_cases q1:i<off
         ·rw [List.append_assoc,List.getElem?_append_left (by simp;omega),List.getElem?_take_of_lt q1] at hz
          rw [List.append_assoc,List.getElem?_append_left (by simp;omega),List.getElem?_take_of_lt q1] at hp
          exact g6 i p z hp (by rw [<-Array.getElem?_toList];exact hz)
         ·by_cases q2:i<off+v.cells.toList.length
          ·rw [List.append_assoc,List.getElem?_append_right (by simp;omega),List.length_take,Nat.min_eq_left (by simp;omega),List.getElem?_append_left (by omega)] at hz
           rw [List.append_assoc,List.getElem?_append_right (by simp;omega),List.length_take,Nat.min_eq_left (by omega),List.getElem?_append_left (by omega)] at hp
           exact r3 _ p z hp (by rw [<-Array.getElem?_toList];exact hz)
          ·rw [List.getElem?_append_right (by simp at q2 ⊢;omega),List.length_append,List.length_take,Nat.min_eq_left (by simp;omega),List.getElem?_drop] at hz
           rw [List.getElem?_append_right (by simp at q2 ⊢;omega),List.length_append,List.length_take,Nat.min_eq_left (by omega),List.getElem?_drop] at hp
           have e1:off+v.cells.toList.length+(i-(off+v.cells.toList.length))=i:=by omega
           have e2:off+y.cells.length+(i-(off+y.cells.length))=i:=by omega
           rw [e1] at hz
           rw [e2] at hp
           exact g6 i p z hp (by rw [<-Array.getElem?_toList];exact hz)⟩)
      refine ⟨w',_,?_,t1,t2⟩
      simp only [Instr.storeAt,Instr.sureAddr,Sem.run_bind,Sem.run_pure,Result.andThen_ok,storeVar,x9 c2]
      rw [if_neg (by omega)]
      exact hrun
   ·cases h
  ·cases h
 ·cases h
def qm (P:Program) (F:Nat->PV) (S:Store) (o:Oper):Option (PV × Store) :=
 match o.op with
 | .load t x=>(vp P t S (ev F x)).map fun p=>(p,S)
 | .store t x y=>(Yq P t S (ev F x) (ev F y)).map fun S'=>(.sc undef,S')
 | _=>none
def PO0 (P:Program) (r:Rd) (n:Nat) (o:Oper) (F:Nat->PV) (S:Store) (K:PV->Store->Prop):Prop :=
 ∀(C:Ctx) (w:World) (a:Act) (N:Nat),St r C S w N F a->∀(next:Act->World->Prop) (Q:Exit->Act->World->Prop),
  (∀v w' C' S' p,K p S'->Rel C' S' w' p v->Sim C' S' w'->Step C S w C' S' w'->next (a.put o.dst v) w')->o.wpIn (Fe r) n P a w next Q
def PO (P:Program) (r:Rd) (n:Nat) (o:Oper) (F:Nat->PV) (S:Store) (K:PV->Store->Prop):Prop :=
 ∀G:Nat->PV,(∀x∈o.op.operands,ev G x=ev F x)->PO0 P r n o G S K
theorem Zfx {P:Program} {F G:Nat->PV} {o:Oper} (h:∀x∈o.op.operands,ev G x=ev F x):xv P G o=xv P F o:=by
 unfold xv
 cases ho:o.op<;>simp only [ho] at h ⊢
 case move x=>rw [h x (by simp [Op.operands])]
 case assign x=>rw [h x (by simp [Op.operands])]
 case pick c a b=>rw [h c (by simp [Op.operands]),h a (by simp [Op.operands]),h b (by simp [Op.operands])]
 case build t parts =>
  have:parts.toList.map (fun x=>(x.1,ev G x.2))=parts.toList.map (fun x=>(x.1,ev F x.2)):=List.map_congr_left fun x hx=>by
   rw [h x.2 (by simp only [Op.operands,List.mem_toArray,List.mem_map];exact ⟨x,hx,rfl⟩)]
  rw [this]
 case buildSlice t len parts =>
  have:parts.toList.map (fun x=>(x.1,ev G x.2))=parts.toList.map (fun x=>(x.1,ev F x.2)):=List.map_congr_left fun x hx=>by
   rw [h x.2 (by simp only [Op.operands,List.mem_toArray,List.mem_map];exact ⟨x,hx,rfl⟩)]
  rw [this]
 case load t x=>rw [h x (by simp [Op.operands])]
 case nilCheck x=>rw [h x (by simp [Op.operands])]
 case binOp op t x y ty=>rw [h x (by simp [Op.operands]),h y (by simp [Op.operands])]
 case unOp op t x=>rw [h x (by simp [Op.operands])]
 case convert src dst x=>rw [h x (by simp [Op.operands])]
 case makeInterface t x=>rw [h x (by simp [Op.operands])]
 case makeFunc fn first cap =>
  have h1:first.toList.map (ev G)=first.toList.map (ev F):=List.map_congr_left fun x hx=>h x (by simp only [Op.operands,Array.mem_append];exact .inl (Array.mem_toList_iff.1 hx))
  have h2:cap.toList.map (ev G)=cap.toList.map (ev F):=List.map_congr_left fun x hx=>h x (by simp only [Op.operands,Array.mem_append];exact .inr (Array.mem_toList_iff.1 hx))
  rw [h1,h2]
 case slice t x lo hi mx =>
  have e:∀(y:Option Operand),(∀z,y=some z->ev G z=ev F z)->y.map (ev G)=y.map (ev F):=by
   intro y hy;cases y with
   | none=>rfl
   | some z=>simp [hy z rfl]
  rw [h x (by simp [Op.operands]),e lo (fun z hz=>h z (by subst hz;simp [Op.operands])),e hi (fun z hz=>h z (by subst hz;simp [Op.operands])),e mx (fun z hz=>h z (by subst hz;simp [Op.operands]))]
 case fieldAddr t x f=>rw [h x (by simp [Op.operands])]
 case field t x f=>rw [h x (by simp [Op.operands])]
 case indexAddr t x i=>rw [h x (by simp [Op.operands]),h i (by simp [Op.operands])]
 case index t x i=>rw [h x (by simp [Op.operands]),h i (by simp [Op.operands])]
 case extract t i=>rw [h t (by simp [Op.operands])]
 case call c =>
  have ha:∀x∈c.args.toList,ev G x=ev F x:=fun x hx=>h x (by simp only [Op.operands,Call.operands,Array.mem_append];exact .inr (Array.mem_toList_iff.1 hx))
  unfold JJ
  split
  ·split
   ·rename_i x t hx ht;rw [ha x (by rw [hx];simp)]
   ·rfl
  ·split
   ·rename_i x y hx;rw [ha x (by rw [hx];simp),ha y (by rw [hx];simp)]
   ·rfl
  ·split
   ·rename_i x y hx;rw [ha x (by rw [hx];simp),ha y (by rw [hx];simp)]
   ·rfl
  ·rfl
theorem Zfy {P:Program} {F G:Nat->PV} {S:Store} {o:Oper} (h:∀x∈o.op.operands,ev G x=ev F x):qm P G S o=qm P F S o:=by
 unfold qm
 cases ho:o.op<;>simp only [ho] at h ⊢
 case load t x=>rw [h x (by simp [Op.operands])]
 case store t x y=>rw [h x (by simp [Op.operands]),h y (by simp [Op.operands])]
theorem qG {P:Program} {r:Rd} {n:Nat} {o:Oper} {a:Act} {w w':World} {x:Next} {next:Act->World->Prop} {Q:Exit->Act->World->Prop} (hnd:∀c,o.op≠.defer c)
  (hr:(execOp a.eval o).run P w=.ok x w') (h:o.uponIn (Fe r) n P a next Q (.ok x w')):o.wpIn (Fe r) n P a w next Q:=by
 refine ⟨fun _ _=>trivial,?_⟩
 rw [Oper.semAt_eq _ _ _ hnd,hr]
 exact h
theorem Wb {P:Program} {r:Rd} {n:Nat} {o:Oper} {F:Nat->PV} {S:Store} {K:PV->Store->Prop} {p:PV} (h:xv P F o=some p) (hK:K p S):PO P r n o F S K:=by
 intro G hG
 rw [<-Zfx hG] at h
 intro C w a N st next Q hnext
 obtain ⟨v,w',hrun,hrel,hs,hstep⟩:=Zft h st.sim st.ev
 refine qG ?_ hrun (hnext v w' C S p hK hrel hs hstep)
 intro c hc
 simp [xv,hc] at h
theorem Qp {P:Program} {r:Rd} {n:Nat} {o:Oper} {F:Nat->PV} {S S':Store} {K:PV->Store->Prop} {p:PV} (h:qm P F S o=some (p,S')) (hK:K p S'):PO P r n o F S K:=by
 intro G hG
 rw [<-Zfy hG] at h
 intro C w a N st next Q hnext
 have hnd:∀c,o.op≠.defer c:=by intro c hc;simp [qm,hc] at h
 unfold qm at h
 split at h
 ·rename_i t x ho
  obtain ⟨q,hq,he⟩:=Option.map_eq_some_iff.1 h
  cases he
  obtain ⟨v,hrun,hrel⟩:=Za4 hq st.sim (st.ev x)
  refine qG (x:=.value v) (w':=w) hnd ?_ (hnext v w C S p hK hrel st.sim (.refl _ _ _))
  unfold execOp
  simp only [ho,Sem.run_bind,hrun]
  rfl
 ·rename_i t x y ho
  obtain ⟨q,hq,he⟩:=Option.map_eq_some_iff.1 h
  cases he
  obtain ⟨w',C',hrun,hs,hstep⟩:=Zfv hq st.sim (st.ev x) (st.ev y)
  refine qG (x:=.skip) (w':=w') hnd ?_ (hnext undef w' C' S' _ hK (.sc _) hs hstep)
  unfold execOp
  simp only [ho,Sem.run_bind,hrun]
  rfl
 ·cases h
def JM (H:List Nat) (o:Oper):Bool :=
 match o.dst with
 | some d=>H.contains d
 | none=>false
def wE (P:Program) (r:Rd) (n:Nat) (H:List Nat) (ops:Array Oper):List Oper->(Nat->PV)->Store->((Nat->PV)->Store->Prop)->Prop
 | [],F,S,K=>K F S
 | o :: os,F,S,K =>
  match gd ops F o with
  | none=>False
  | some false=>wE P r n H ops os (zT F o.dst (.sc undef)) S K
  | some true =>
   if JM H o=true then PO P r n o F S (fun p S'=>wE P r n H ops os (zT F o.dst p) S' K) else
   match xv P F o with
   | some p=>wE P r n H ops os (zT F o.dst p) S K
   | none =>
    match qm P F S o with
    | some (p,S')=>wE P r n H ops os (zT F o.dst p) S' K
    | none=>PO P r n o F S (fun p S'=>wE P r n H ops os (zT F o.dst p) S' K)
def Marks (n0:Nat) (C:Ctx) (S:Store) (w:World):List Deferred->Prop
 | []=>True
 | d :: ds=>(∃D,n0<=D/\d={ target:=.collected D,args:=#[] }/\w.heap[D]?=some (.deferred (some []))/\¬C.M S D/\∀d'∈ds,d'≠d)/\Marks n0 C S w ds
theorem Marks.mono {n0:Nat} {C C':Ctx} {S S':Store} {w w':World} (st:Step C S w C' S' w'):∀{ds:List Deferred},Marks n0 C S w ds->Marks n0 C' S' w' ds
 | [],_=>trivial
 | _ :: _,⟨⟨D,h1,h2,h3,h4,h5⟩,h⟩=>by
  obtain ⟨k1,k2⟩:=st.blocks D (yW h3) h4
  exact ⟨⟨D,h1,h2,k1.trans h3,k2,h5⟩,Marks.mono st h⟩
theorem Marks.mem {n0:Nat} {C:Ctx} {S:Store} {w:World}:∀{ds:List Deferred},Marks n0 C S w ds->∀d∈ds,∃D,n0<=D/\D<w.heap.size/\d={ target:=.collected D,args:=#[] }
 | _ :: ds,⟨⟨D,h1,h2,h3,_,_⟩,h⟩,d,hd=>by
  rcases List.mem_cons.1 hd with rfl | hd
  ·exact ⟨D,h1,yW h3,h2⟩
  ·exact Marks.mem h d hd
theorem Marks.app {n0 n1:Nat} {C:Ctx} {S:Store} {w:World} {ms:List Deferred} (hn:n0<=n1) (hm:Marks n0 C S w ms) (hlt:∀d∈ms,∃D,D<n1/\d={ target:=.collected D,args:=#[] }) :
  ∀{ds:List Deferred},Marks n1 C S w ds->Marks n0 C S w (ds++ms)
 | [],_=>hm
 | d :: ds,⟨⟨D,h1,h2,h3,h4,h5⟩,h⟩=>by
  refine ⟨⟨D,Nat.le_trans hn h1,h2,h3,h4,fun d' hd'=>?_⟩,Marks.app hn hm hlt h⟩
  rcases List.mem_append.1 hd' with q | q
  ·exact h5 d' q
  ·obtain ⟨D',h6,h7⟩:=hlt d' q
   intro e
   rw [h7,h2] at e
   cases e
   omega
def Defs (n0:Nat) (ds:List Deferred) (C:Ctx) (S:Store) (w:World) (ds':List Deferred):Prop:=∃ms,ds'=ms++ds/\Marks n0 C S w ms
theorem Defs.of_eq {n0:Nat} {ds ds':List Deferred} {C:Ctx} {S:Store} {w:World} (h:ds'=ds):Defs n0 ds C S w ds':=⟨[],h,trivial⟩
theorem Defs.trans {n0:Nat} {ds ds1 ds2:List Deferred} {C1 C2:Ctx} {S1 S2:Store} {w1 w2:World} (h1:Defs n0 ds C1 S1 w1 ds1) (st:Step C1 S1 w1 C2 S2 w2) (hn:n0<=w1.heap.size) (h2:Defs w1.heap.size ds1 C2 S2 w2 ds2):Defs n0 ds C2 S2 w2 ds2:=by
 obtain ⟨ms1,rfl,m1⟩:=h1
 obtain ⟨ms2,rfl,m2⟩:=h2
 refine ⟨ms2++ms1,by simp,Marks.app hn (m1.mono st) (fun d hd=>?_) m2⟩
 obtain ⟨D,_,h,e⟩:=m1.mem d hd
 exact ⟨D,h,e⟩
theorem Defs.step {n0:Nat} {ds ds1:List Deferred} {C1 C2:Ctx} {S1 S2:Store} {w1 w2:World} (h1:Defs n0 ds C1 S1 w1 ds1) (st:Step C1 S1 w1 C2 S2 w2):Defs n0 ds C2 S2 w2 ds1:=by
 obtain ⟨ms1,rfl,m1⟩:=h1
 exact ⟨ms1,rfl,m1.mono st⟩
def PW (P:Program) (r:Rd) (n N:Nat) (c:Code) (Q:Exit->(Nat->PV)->Store->Prop) (F:Nat->PV) (S:Store):Prop :=
 ∀(C:Ctx) (w:World) (a:Act),St r C S w N F a->c.wpIn (Fe r) n P (fun e a' w'=>∃F' S' C',Q e F' S'/\St r C' S' w' N F' a'/\Defs w.heap.size a.defers C' S' w' a'.defers/\Step C S w C' S' w') a w
section rules
variable {P:Program} {r:Rd} {n N:Nat} {Q:Exit->(Nat->PV)->Store->Prop} {F:Nat->PV} {S:Store}
theorem Wc (k m:Nat) (h:k<m):(List.range m).drop k=k :: (List.range m).drop (k+1):=by
 rw [List.drop_eq_getElem_cons (by simpa using h)]
 simp
theorem Qq (a:Act) (d:Option Nat) (v:Value):(a.put d v).defers=a.defers:=by cases d<;>rfl
theorem Zfz {H:List Nat} {ops:Array Oper} {Q':Exit->Act->World->Prop} (hN:∀o∈ops,∀d,o.dst=some d->d<N) {K:(Nat->PV)->Store->Prop} {C0:Ctx} {S0:Store} {w0:World} {ds:List Deferred}
  (hQ:∀F' S' C' w' a',K F' S'->St r C' S' w' N F' a'->a'.defers=ds->Step C0 S0 w0 C' S' w'->Q' .normal a' w') :
  ∀(m k:Nat) (F:Nat->PV) (S:Store) (C:Ctx) (w:World) (a:Act),ops.size-k=m->wE P r n H ops (ops.toList.drop k) F S K->St r C S w N F a->a.defers=ds->Step C0 S0 w0 C S w ->
   wpOpsIn (Fe r) n P ops Q' ((List.range ops.size).drop k) a w:=by
 intro m
 induction m with
 | zero =>
  intro k F S C w a hm h st hd step
  have e1:(List.range ops.size).drop k=[]:=List.drop_eq_nil_of_le (by simp;omega)
  have e2:ops.toList.drop k=[]:=List.drop_eq_nil_of_le (by simp;omega)
  rw [e1];rw [e2] at h
  exact hQ F S C w a h st hd step
 | succ m ih =>
  intro k F S C w a hm h st hd step
  have hk:k<ops.size:=by omega
  rw [Wc k _ hk]
  have e2:ops.toList.drop k=ops[k] :: ops.toList.drop (k+1):=by
   rw [List.drop_eq_getElem_cons (by simpa using hk)];simp
  rw [e2] at h
  have hget:ops[k]?=some ops[k]:=by simp
  have hdst:∀x,ops[k].dst=some x->x<N:=hN _ (Array.getElem_mem hk)
  rw [wpOpsIn_cons]
  unfold wpOpIn
  rw [hget]
  dsimp only
  simp only [wE] at h
  split at h
  ·exact h.elim
  ·rename_i hg
   rw [Ze st hg]
   simp only [Bool.false_eq_true,if_false]
   exact ⟨fun _ _=>trivial,ih (k+1) _ _ C w _ (by omega) h (st.put (.refl _ _ _) st.sim hdst (.sc _)) (by rw [Qq];exact hd) step⟩
  ·rename_i hg
   rw [Ze st hg]
   simp only [if_true]
   have go:PO P r n ops[k] F S (fun p S'=>wE P r n H ops (ops.toList.drop (k+1)) (zT F ops[k].dst p) S' K)->Oper.wpIn (Fe r) n P ops[k] a w (wpOpsIn (Fe r) n P ops Q' ((List.range ops.size).drop (k+1))) Q':=fun hpo =>
    hpo F (fun _ _=>rfl) C w a N st _ _ (fun v w' C' S' p hp hrel hs hstep=>ih (k+1) _ _ C' w' _ (by omega) hp (st.put hstep hs hdst hrel) (by rw [Qq];exact hd) (step.trans hstep))
   split at h
   ·exact go h
   ·split at h
    ·rename_i p hp
     exact go (Wb hp h)
    ·split at h
     ·rename_i p S' hp
      exact go (Qp hp h)
     ·exact go h
def xx (N:Nat) (ops:Array Oper):Bool:=ops.toList.all fun o=>match o.dst with | some d=>Nat.blt d N | none=>true
theorem JN {ops:Array Oper} (h:xx N ops=true):∀o∈ops,∀d,o.dst=some d->d<N:=by
 intro o ho d hd
 unfold xx at h
 rw [List.all_eq_true] at h
 have:=h o (Array.mem_toList_iff.2 ho)
 rw [hd] at this
 simpa [Nat.blt_eq] using this
theorem Za5 {id:Nat} {ops:Array Oper} (H:List Nat) (hN:xx N ops=true) (h:wE P r n H ops ops.toList F S (Q .normal)):PW P r n N (.region id ops false) Q F S:=by
 intro C w a st
 refine wpIn_region ?_
 have:=Zfz (H:=H) (Q':=fun e a' w'=>∃F' S' C',Q e F' S'/\St r C' S' w' N F' a'/\Defs w.heap.size a.defers C' S' w' a'.defers/\Step C S w C' S' w') (JN hN)
  (fun F' S' C' w' a' hk hst hd hstep=>⟨F',S',C',hk,hst,.of_eq hd,hstep⟩) ops.size 0 F S C w a rfl (K:=Q .normal) (by simpa using h) st rfl (.refl _ _ _)
 simpa using this
def uG (K:(Nat->PV)->Store->Prop) (Q:Exit->(Nat->PV)->Store->Prop):Exit->(Nat->PV)->Store->Prop
 | .normal,F,S=>K F S
 | e,F,S=>Q e F S
theorem Qr {c:Code} {Q':Exit->(Nat->PV)->Store->Prop} (h:PW P r n N c Q F S) (hq:∀e F S,Q e F S->Q' e F S):PW P r n N c Q' F S:=by
 intro C w a st
 exact wpIn_mono (h C w a st) fun e a' w' ⟨F',S',C',h1,h2⟩=>⟨F',S',C',hq _ _ _ h1,h2⟩
theorem za {x y:Code} (h:PW P r n N x (uG (PW P r n N y Q) Q) F S):PW P r n N (.seq x y) Q F S:=by
 intro C w a st
 refine wpIn_seq (wpIn_mono (h C w a st) ?_)
 rintro e a' w' ⟨F',S',C',hq,hst,hd,hstep⟩
 cases e with
 | normal =>
  refine wpIn_mono (hq C' w' a' hst) ?_
  rintro e a'' w'' ⟨F2,S2,C2,h1,h2,h3,h4⟩
  exact ⟨F2,S2,C2,h1,h2,hd.trans h4 hstep.size h3,hstep.trans h4⟩
 | _=>exact ⟨F',S',C',hq,hst,hd,hstep⟩
theorem zh (h:Q .normal F S):PW P r n N .skip Q F S:=fun C _ _ st=>wpIn_skip ⟨F,S,C,h,st,.of_eq rfl,.refl _ _ _⟩
theorem zu {id:Nat} (h:Q (.exit id) F S):PW P r n N (.exit id) Q F S:=fun C _ _ st=>wpIn_exit ⟨F,S,C,h,st,.of_eq rfl,.refl _ _ _⟩
theorem zg (h:Q .ret F S):PW P r n N .ret Q F S:=fun C _ _ st=>wpIn_ret ⟨F,S,C,h,st,.of_eq rfl,.refl _ _ _⟩
theorem zr {c:Operand} {x y:Code} {t:Bool} (hc:ev F c=.sc (.bool t)) (h1:t=true->PW P r n N x Q F S) (h2:t=false->PW P r n N y Q F S):PW P r n N (.cond c x y) Q F S:=by
 intro C w a st
 have:=st.ev c
 rw [hc] at this
 generalize hv:a.eval c=v at this
 cases this
 exact wpIn_cond_split hv (fun e=>h1 e C w a st) (fun e=>h2 e C w a st)
def qz (id:Nat) (Q:Exit->(Nat->PV)->Store->Prop):Exit->(Nat->PV)->Store->Prop
 | .exit id',F,S=>if id'=id then Q .normal F S else Q (.exit id') F S
 | e,F,S=>Q e F S
theorem zi {id:Nat} {c:Code} (h:PW P r n N c (qz id Q) F S):PW P r n N (.block id c) Q F S:=by
 intro C w a st
 refine wpIn_block (wpIn_mono (h C w a st) ?_)
 rintro e a' w' ⟨F',S',C',hq,rest⟩
 cases e with
 | exit id' =>
  simp only [qz] at hq
  simp only [Exit.inBlock]
  split
  ·rename_i he;rw [if_pos he] at hq;exact ⟨F',S',C',hq,rest⟩
  ·rename_i he;rw [if_neg he] at hq;exact ⟨F',S',C',hq,rest⟩
 | _=>exact ⟨F',S',C',hq,rest⟩
theorem Wd {c:Code} (I:(Nat->PV)->Store->Nat->Prop) (m0:Nat) (h0:I F S m0) (round:∀m F S,I F S m->PW P r n N c (uG (fun F' S'=>∃m',I F' S' m'/\m'<m) Q) F S):PW P r n N (.loop c) Q F S:=by
 intro C w a st b k cs hro hb hr
 have key:∀j F1 S1 C1 w1 a1,I F1 S1 j->St r C1 S1 w1 N F1 a1->Defs w.heap.size a.defers C1 S1 w1 a1.defers->Step C S w C1 S1 w1 ->
   ∃e a' w',(∃F' S' C',Q e F' S'/\St r C' S' w' N F' a'/\Defs w.heap.size a.defers C' S' w' a'.defers/\Step C S w C' S' w')/\ArrivesIn (Machine.fenced P (Fe r)) P (lone (b.atR a1 (.code c :: .inLoop c :: k)) cs w1) b k cs e a' w':=by
  intro j
  induction j using Nat.strongRecOn with
  | _ j ih =>
   intro F1 S1 C1 w1 a1 hI st1 hd1 hstep1
   obtain ⟨e,a2,w2,⟨F2,S2,C2,hq,st2,hd2,hstep2⟩,harr⟩:=round j F1 S1 hI C1 w1 a1 st1 b (.inLoop c :: k) cs hro hb hr
   cases e with
   | normal =>
    obtain ⟨m',hI',hlt⟩:=hq
    obtain ⟨e3,a3,w3,hq3,harr3⟩:=ih m' hlt F2 S2 C2 w2 a2 hI' st2 (hd1.trans hstep2 hstep1.size hd2) (hstep1.trans hstep2)
    exact ⟨e3,a3,w3,hq3,.of_steps (StepsIn.trans harr (.one (fenced_calm hb hr rfl) stepR_inLoop)) harr3⟩
   | exit id=>exact ⟨_,a2,w2,⟨F2,S2,C2,hq,st2,hd1.trans hstep2 hstep1.size hd2,hstep1.trans hstep2⟩,.pass (x:=.inLoop c) rfl (fun _ _=>.inl (by simp)) harr⟩
   | goto l=>exact ⟨_,a2,w2,⟨F2,S2,C2,hq,st2,hd1.trans hstep2 hstep1.size hd2,hstep1.trans hstep2⟩,.pass (x:=.inLoop c) rfl (fun _ _=>.inl (by simp)) harr⟩
   | ret=>exact ⟨_,a2,w2,⟨F2,S2,C2,hq,st2,hd1.trans hstep2 hstep1.size hd2,hstep1.trans hstep2⟩,.pass (x:=.inLoop c) rfl (fun _ _=>.inl (by simp)) harr⟩
   | panic ch=>exact ⟨_,a2,w2,⟨F2,S2,C2,hq,st2,hd1.trans hstep2 hstep1.size hd2,hstep1.trans hstep2⟩,.pass (x:=.inLoop c) rfl (fun _ _=>.inl (by simp)) harr⟩
   | outgrown=>exact ⟨_,a2,w2,⟨F2,S2,C2,hq,st2,hd1.trans hstep2 hstep1.size hd2,hstep1.trans hstep2⟩,.pass (x:=.inLoop c) rfl (fun _ _=>.inl (by simp)) harr⟩
 obtain ⟨e,a',w',hq,harr⟩:=key m0 F S C w a h0 st (.of_eq rfl) (.refl _ _ _)
 exact ⟨e,a',w',hq,.of_steps (.one (fenced_calm hb hr rfl) stepR_loop) harr⟩
end rules
open Go
def xL (o:Oper):List Nat:=(o.after.toList.filter (Region.binds .any)).map (·.on)
def wF (ops:Array Oper) (o:Oper):List Nat :=
 (o.op.operands.toList.filterMap fun | .tmp t=>some t | _=>none) ++
 (match o.guard with
  | none=>[]
  | some (j,_)=>match (ops[j]?).bind (·.dst) with | some d=>[d] | none=>[])
def JO:List Oper->List (List Nat)->List (List Nat)
 | [],acc=>acc
 | o :: os,acc=>JO os (acc++[((xL o).flatMap fun e=>e :: acc.getD e []).eraseDups])
def ZQ (ops:Array Oper):List (List Nat):=JO ops.toList []
def Za6 (ops:Array Oper) (A:List (List Nat)) (i j:Nat):Bool :=
 match ops[i]?,ops[j]? with
 | some oi,some oj =>
  match oj.dst with
  | none=>true
  | some d =>
   if i=j then !(wF ops oi).contains d
   else decide (oi.dst≠some d) && (!(wF ops oi).contains d || (if j<i then (A.getD i []).contains j else (A.getD j []).contains i))
 | _,_=>true
def ZR (ops:Array Oper):Bool :=
 let A:=ZQ ops
 (List.range ops.size).all fun i =>
  (match ops[i]? with | some o=>(xL o).all (·<i) | none=>true) &&
  (List.range ops.size).all fun j=>Za6 ops A i j
inductive Row where
 | done
 | pure (i:Nat) (r:Row)
 | alt (i:Nat) (r more:Row)
 | stop
def Row.pures:List Nat->Row->Row
 | [],r=>r
 | i :: is,r=>.pure i (Row.pures is r)
def Row.chain:Row->Bool
 | .alt _ _ _=>true
 | .stop=>true
 | _=>false
def uH (ops:Array Oper) (pre:List Nat) (i:Nat):Bool :=
 match ops[i]? with
 | some o=>(xL o).all (pre.contains ·) && !pre.contains i
 | none=>false
def jH (ops:Array Oper):List Nat->List Nat->Row->Bool
 | pre,_,.done=>(List.range ops.size).all (pre.contains ·)
 | pre,_,.pure i r=>uH ops pre i && jH ops (i :: pre) [] r
 | pre,acc,.alt i r more=>uH ops pre i && jH ops (i :: pre) [] r && jH ops pre (i :: acc) more && more.chain
 | pre,acc,.stop=>!acc.isEmpty && (List.range ops.size).all fun j=>pre.contains j || acc.contains j || !uH ops pre j
def ZS (ops:Array Oper) (L:Nat->Prop):Prop:=∀j o,L j->ops[j]?=some o->∀e∈xL o,L e
theorem Za7 (L:Nat->Prop) (whole:List Oper) (hL:∀j o,L j->whole[j]?=some o->∀e∈xL o,L e) :
  ∀(l:List Oper) (pre:List Oper) (acc:List (List Nat)),whole=pre++l->acc.length=pre.length ->
   (∀(j:Nat) (o:List Nat),acc[j]?=some o->∀p,whole[j]?=some p->(∀e∈xL p,L e)->∀k∈o,L k) ->
   ∀(j:Nat) (o:List Nat),(JO l acc)[j]?=some o->∀p,whole[j]?=some p->(∀e∈xL p,L e)->∀k∈o,L k
 | [],_,_,_,_,h=>h
 | x :: xs,pre,acc,hw,hl,h=>by
  simp only [JO]
  refine Za7 L whole hL xs (pre++[x]) _ (by rw [hw];simp) (by simp [hl]) ?_
  intro j o hj p hp he k hk
  by_cases hlt:j<acc.length
  ·rw [List.getElem?_append_left hlt] at hj
   exact h j o hj p hp he k hk
  ·rw [List.getElem?_append_right (by omega)] at hj
   have hje:j=acc.length:=by
    rcases Nat.lt_or_ge (j-acc.length) 1 with q | q
    ·omega
    ·rw [List.getElem?_eq_none (by simpa using q)] at hj;cases hj
   subst hje
   simp only [Nat.sub_self,List.getElem?_cons_zero,Option.some.injEq] at hj
   subst hj
   have hpx:p=x:=by
    rw [hw,List.getElem?_append_right (by omega),hl,Nat.sub_self] at hp
    simpa using hp.symm
   subst hpx
   rw [List.mem_eraseDups,List.mem_flatMap] at hk
   obtain ⟨e,heM,hk⟩:=hk
   rw [List.mem_cons] at hk
   rcases hk with rfl | hk
   ·exact he k heM
   ·cases hg:acc[e]? with
    | none=>rw [List.getD_eq_getElem?_getD,hg] at hk;cases hk
    | some ae =>
     rw [List.getD_eq_getElem?_getD,hg] at hk
     have hew:∃q,whole[e]?=some q:=by
      have:e<acc.length:=(List.getElem?_eq_some_iff.1 hg).1
      exact ⟨_,List.getElem?_eq_getElem (by rw [hw];simp;omega)⟩
     obtain ⟨q,hq⟩:=hew
     exact h e ae hg q hq (hL e q (he e heM) hq) k hk
theorem We {ops:Array Oper} {L:Nat->Prop} (hL:ZS ops L) {j:Nat} {o:Oper} (ho:ops[j]?=some o) (he:∀e∈xL o,L e) {k:Nat} (hk:k∈(ZQ ops).getD j []):L k:=by
 have:=Za7 L ops.toList (fun j o h1 h2=>hL j o h1 (by rw [<-Array.getElem?_toList];exact h2)) ops.toList [] [] (by simp) rfl (fun j o h=>by cases h)
 cases hg:(ZQ ops)[j]? with
 | none=>rw [List.getD_eq_getElem?_getD,hg] at hk;cases hk
 | some x =>
  rw [List.getD_eq_getElem?_getD,hg] at hk
  exact this j x hg o (by rw [Array.getElem?_toList];exact ho) he k hk
section
variable {P:Program} {r:Rd} {n N:Nat} {Q:Exit->(Nat->PV)->Store->Prop} {F:Nat->PV} {S:Store}
def yB (ids:Option (List Nat)) (S0 S:Store):Prop :=
 match ids with
 | none=>S=S0
 | some l=>∀x∈l,S x=S0 x
def Zf (P:Program) (ids:Option (List Nat)) (S0:Store) (F:Nat->PV) (o:Oper):Option PV :=
 match o.op with
 | .load t x =>
  match ev F x with
  | .ptr id ver off =>
   match ids with
   | none=>vp P t S0 (.ptr id ver off)
   | some l=>if id∈l then vp P t S0 (.ptr id ver off) else none
  | _=>none
 | _=>none
theorem ZfA {ids:Option (List Nat)} {S0:Store} {o:Oper} {p:PV} (h:Zf P ids S0 F o=some p) (S':Store) (hS:yB ids S0 S'):PO P r n o F S' (fun q S''=>q=p/\S''=S'):=by
 unfold Zf at h
 split at h
 ·rename_i t x ho
  split at h
  ·rename_i id ver off hx
   have hl:vp P t S' (.ptr id ver off)=some p:=by
    cases ids with
    | none=>cases hS;exact h
    | some l =>
     simp only at h
     split at h
     ·rename_i hm
      have:=hS id hm
      unfold vp at h ⊢
      simp only [this] at h ⊢
      exact h
     ·cases h
   exact Qp (p:=p) (S':=S') (by unfold qm;rw [ho];simp only [hx,hl,Option.map_some]) ⟨rfl,rfl⟩
  ·cases h
 ·cases h
def PX (P:Program) (r:Rd) (n:Nat) (ops:Array Oper) (ids:Option (List Nat)) (S0:Store):Row->(Nat->PV)->Store->((Nat->PV)->Store->Prop)->Prop
 | .done,F,S,K=>K F S
 | .stop,_,_,_=>True
 | .pure i is,F,S,K =>
  match ops[i]? with
  | none=>False
  | some o =>
   match gd ops F o with
   | none=>False
   | some false=>PX P r n ops ids S0 is (zT F o.dst (.sc undef)) S K
   | some true =>
    match xv P F o with
    | some p=>PX P r n ops ids S0 is (zT F o.dst p) S K
    | none =>
     match Zf P ids S0 F o with
     | some p=>PX P r n ops ids S0 is (zT F o.dst p) S K
     | none=>∃p,(∀S',yB ids S0 S'->PO P r n o F S' (fun q S''=>q=p/\S''=S'))/\PX P r n ops ids S0 is (zT F o.dst p) S K
 | .alt i is more,F,S,K =>
  (match ops[i]? with
  | none=>False
  | some o =>
   match gd ops F o with
   | none=>False
   | some false=>PX P r n ops ids S0 is (zT F o.dst (.sc undef)) S K
   | some true =>
    match qm P F S o with
    | some (p,S')=>yB ids S0 S'/\PX P r n ops ids S0 is (zT F o.dst p) S' K
    | none=>PO P r n o F S (fun p S'=>yB ids S0 S'/\PX P r n ops ids S0 is (zT F o.dst p) S' K)) /\
  PX P r n ops ids S0 more F S K
def Qt (ops:Array Oper) (val:Nat->PV) (F0:Nat->PV) (j:Nat) (o:Oper) (G:Nat->PV):Prop :=
 ∀t∈wF ops o,(∀j' o',ops[j']?=some o'->o'.dst=some t->j'<j->G t=val j')/\((∀j' o',ops[j']?=some o'->o'.dst=some t->¬j'<j)->G t=F0 t)
def Qu (ops:Array Oper) (val:Nat->PV) (F0:Nat->PV) (L:Nat->Prop) (G:Nat->PV):Prop :=
 ∀t,(∀j o,L j->ops[j]?=some o->o.dst=some t->G t=val j)/\((∀j o,L j->ops[j]?=some o->o.dst≠some t)->G t=F0 t)
structure RegOk (ops:Array Oper):Prop where
 edge:∀(i:Nat) (o:Oper),ops[i]?=some o->∀e∈xL o,e<i
 dst:∀(i j:Nat) (oi oj:Oper) (d:Nat),ops[i]?=some oi->ops[j]?=some oj->i≠j->oi.dst=some d->oj.dst≠some d
 self:∀(i:Nat) (o:Oper) (d:Nat),ops[i]?=some o->o.dst=some d->d ∉ wF ops o
 before:∀(i j:Nat) (oi oj:Oper) (d:Nat),ops[i]?=some oi->ops[j]?=some oj->oj.dst=some d->d∈wF ops oi->j<i->j∈(ZQ ops).getD i []
 behind:∀(i j:Nat) (oi oj:Oper) (d:Nat),ops[i]?=some oi->ops[j]?=some oj->oj.dst=some d->d∈wF ops oi->i<j->i∈(ZQ ops).getD j []
theorem ZfB {ops:Array Oper} (h:ZR ops=true):RegOk ops:=by
 unfold ZR at h
 simp only [List.all_eq_true,List.mem_range,Bool.and_eq_true] at h
 have lt:∀{i o},ops[i]?=some o->i<ops.size:=fun h=>(Array.getElem?_eq_some_iff.1 h).1
 have pair:∀{i j oi oj d},ops[i]?=some oi->ops[j]?=some oj->oj.dst=some d ->
   (if i=j then !(wF ops oi).contains d else decide (oi.dst≠some d) && (!(wF ops oi).contains d || (if j<i then ((ZQ ops).getD i []).contains j else ((ZQ ops).getD j []).contains i)))=true:=by
  intro i j oi oj d hi hj hd
  have:=(h i (lt hi)).2 j (lt hj)
  unfold Za6 at this
  rw [hi,hj] at this
  simp only [hd] at this
  exact this
 refine ⟨?_,?_,?_,?_,?_⟩
 ·intro i o hi e he
  have:=(h i (lt hi)).1
  rw [hi] at this
  simp only [List.all_eq_true,decide_eq_true_eq] at this
  exact this e he
 ·intro i j oi oj d hi hj hne hd hd'
  have:=pair hi hj hd'
  rw [if_neg hne] at this
  simp [hd] at this
 ·intro i o d hi hd hmem
  have:=pair hi hi hd
  rw [if_pos rfl] at this
  simp [hmem] at this
 ·intro i j oi oj d hi hj hd hmem hlt
  have:=pair hi hj hd
  rw [if_neg (by omega)] at this
  simp only [Bool.and_eq_true,Bool.or_eq_true] at this
  rcases this.2 with q | q
  ·simp [hmem] at q
  ·rw [if_pos hlt] at q;simpa using q
 ·intro i j oi oj d hi hj hd hmem hlt
  have:=pair hi hj hd
  rw [if_neg (by omega)] at this
  simp only [Bool.and_eq_true,Bool.or_eq_true] at this
  rcases this.2 with q | q
  ·simp [hmem] at q
  ·rw [if_neg (by omega)] at q;simpa using q
theorem JP {ops:Array Oper} (R:RegOk ops) {val F0 G:Nat->PV} {L:Nat->Prop} (hL:ZS ops L) (hG:Qu ops val F0 L G) {i:Nat} {o:Oper} (hi:ops[i]?=some o) (hn:¬L i)
  (he:∀e∈xL o,L e):Qt ops val F0 i o G:=by
 intro t ht
 refine ⟨fun j o' hj hd hlt=>?_,fun hno=>?_⟩
 ·exact (hG t).1 j o' (We hL hi he (R.before i j o o' t hi hj hd ht hlt)) hj hd
 ·refine (hG t).2 fun j o' hLj hj hd=>?_
  have h1:=hno j o' hj hd
  rcases Nat.lt_or_ge i j with q | q
  ·exact hn (We hL hj (hL j o' hLj hj) (R.behind i j o o' t hi hj hd ht q))
  ·have:i=j:=by omega
   subst this
   rw [hi] at hj;cases hj
   exact R.self i o t hi hd ht
theorem Za8 {ops:Array Oper} {val F0 G G':Nat->PV} {i:Nat} {o:Oper} (h:Qt ops val F0 i o G) (h':Qt ops val F0 i o G'):∀t∈wF ops o,G t=G' t:=by
 intro t ht
 by_cases hx:∃j o',ops[j]?=some o'/\o'.dst=some t/\j<i
 ·obtain ⟨j,o',h1,h2,h3⟩:=hx
  rw [(h t ht).1 j o' h1 h2 h3,(h' t ht).1 j o' h1 h2 h3]
 ·have hno:∀j' o',ops[j']?=some o'->o'.dst=some t->¬j'<i:=fun j' o' h1 h2 h3=>hx ⟨j',o',h1,h2,h3⟩
  rw [(h t ht).2 hno,(h' t ht).2 hno]
theorem Za9 {ops:Array Oper} {o:Oper} {G G':Nat->PV} (h:∀t∈wF ops o,G t=G' t):∀x∈o.op.operands,ev G x=ev G' x:=by
 intro x hx
 cases x with
 | tmp t =>
  refine h t ?_
  unfold wF
  rw [List.mem_append]
  left
  rw [List.mem_filterMap]
  exact ⟨.tmp t,Array.mem_toList_iff.2 hx,rfl⟩
 | _=>rfl
theorem JQ {ops:Array Oper} {o:Oper} {G G':Nat->PV} (h:∀t∈wF ops o,G t=G' t):gd ops G o=gd ops G' o:=by
 unfold gd
 unfold wF at h
 cases hg:o.guard with
 | none=>rfl
 | some jw =>
  obtain ⟨j,want⟩:=jw
  simp only [hg] at h ⊢
  cases hd:(ops[j]?).bind (·.dst) with
  | none=>rfl
  | some d =>
   simp only [hd] at h ⊢
   rw [h d (by simp)]
def Wf (P:Program) (r:Rd) (n:Nat) (ops:Array Oper) (T:Store->Prop) (val F0:Nat->PV) (j:Nat):Prop :=
 ∃o,ops[j]?=some o/\∀G,Qt ops val F0 j o G->(gd ops G o=some false/\val j=.sc undef)\/(gd ops G o=some true/\∀S',T S'->PO P r n o G S' (fun q S''=>q=val j/\S''=S'))
theorem ZfC {o:Oper} {F G:Nat->PV} {S:Store} {K:PV->Store->Prop} (h:PO P r n o F S K) (hG:∀x∈o.op.operands,ev G x=ev F x):PO P r n o G S K :=
 fun G' hG'=>h G' (fun x hx=>(hG' x hx).trans (hG x hx))
theorem JR {ops:Array Oper} (R:RegOk ops) {val F0 G:Nat->PV} {L:Nat->Prop} (h:Qu ops val F0 L G) {i:Nat} {o:Oper} (hi:ops[i]?=some o) {p:PV} {val':Nat->PV} (hp:val' i=p) (hv:∀j,L j->val' j=val j) :
  Qu ops val' F0 (fun j=>j=i\/L j) (zT G o.dst p):=by
 intro t
 by_cases hd:o.dst=some t
 ·rw [hd]
  simp only [zT,jZ,if_pos]
  refine ⟨fun j oj hj ho hdj=>?_,fun hno=>absurd hd (hno i o (.inl rfl) hi)⟩
  rcases hj with rfl | hj
  ·exact hp.symm
  ·by_cases hne:j=i
   ·subst hne;exact hp.symm
   ·exact absurd hdj (R.dst i j o oj t hi ho (fun e=>hne e.symm) hd)
 ·have e:zT G o.dst p t=G t:=by
   cases hq:o.dst with
   | none=>rfl
   | some d=>simp only [zT,jZ];rw [if_neg (fun e=>hd (by rw [hq,e]))]
  rw [e]
  refine ⟨fun j oj hj ho hdj=>?_,fun hno=>(h t).2 fun j oj hj ho=>hno j oj (.inr hj) ho⟩
  rcases hj with rfl | hj
  ·rw [hi] at ho;cases ho;exact absurd hdj hd
  ·rw [hv j hj];exact (h t).1 j oj hj ho hdj
theorem Zba {ops:Array Oper} (R:RegOk ops) {T:Store->Prop} {val val' F0:Nat->PV} {L:Nat->Prop} (hL:ZS ops L) (hv:∀j,L j->val' j=val j) {j:Nat} (hj:L j) (h:Wf P r n ops T val F0 j):Wf P r n ops T val' F0 j:=by
 obtain ⟨o,ho,h⟩:=h
 refine ⟨o,ho,fun G hG=>?_⟩
 rw [hv j hj]
 refine h G fun t ht=>⟨fun j' o' h1 h2 h3=>?_,(hG t ht).2⟩
 have hl:L j':=We hL ho (hL j o hj ho) (R.before j j' o o' t ho h1 h2 ht h3)
 rw [<-hv j' hl]
 exact (hG t ht).1 j' o' h1 h2 h3
structure Mid (P:Program) (r:Rd) (n:Nat) (ops:Array Oper) (ids:Option (List Nat)) (S0:Store) (F0:Nat->PV) (K:(Nat->PV)->Store->Prop) (E:Nat->Prop) (G:Nat->PV) (S:Store) (val:Nat->PV) (pre:List Nat) (row:Row) (Fp:Nat->PV):Prop where
 closedE:ZS ops E
 closedP:ZS ops (·∈pre)
 frmE:Qu ops val F0 E G
 frmP:Qu ops val F0 (·∈pre) Fp
 sub:∀j,E j->j∈pre
 evid:∀j,j∈pre->¬E j->Wf P r n ops (yB ids S0) val F0 j
 px:PX P r n ops ids S0 row Fp S K
 row:jH ops pre [] row=true
 t:yB ids S0 S
theorem JS {ops:Array Oper} {pre:List Nat} {i:Nat} (h:uH ops pre i=true):∃o,ops[i]?=some o/\(∀e∈xL o,e∈pre)/\i ∉ pre:=by
 unfold uH at h
 cases ho:ops[i]? with
 | none=>rw [ho] at h;cases h
 | some o =>
  rw [ho] at h
  simp only [Bool.and_eq_true,List.all_eq_true] at h
  exact ⟨o,rfl,fun e he=>by simpa using h.1 e he,by simpa using h.2⟩
theorem Zbb {ops:Array Oper} (R:RegOk ops) {ids:Option (List Nat)} {S0:Store} {F0:Nat->PV} {K:(Nat->PV)->Store->Prop} {E:Nat->Prop} {G Fp:Nat->PV} {val:Nat->PV} {pre:List Nat} {rest:Row} {i:Nat} {o:Oper}
  (h:Mid P r n ops ids S0 F0 K E G S val pre (.pure i rest) Fp) (ho:ops[i]?=some o) {p:PV} (hx:PX P r n ops ids S0 rest (zT Fp o.dst p) S K)
  (hev:(gd ops Fp o=some false/\p=.sc undef)\/(gd ops Fp o=some true/\∀S',yB ids S0 S'->PO P r n o Fp S' (fun q S''=>q=p/\S''=S'))) :
  Mid P r n ops ids S0 F0 K E G S (fun j=>if j=i then p else val j) (i :: pre) rest (zT Fp o.dst p):=by
 have hrow0:=h.row
 simp only [jH,Bool.and_eq_true] at hrow0
 obtain ⟨o',ho',hedge,hni⟩:=JS hrow0.1
 rw [ho] at ho';cases ho'
 have hnE:∀j,E j->j≠i:=fun j hj e=>hni (e ▸ h.sub j hj)
 have hclP:ZS ops (·∈i :: pre):=by
  intro j oj hj hoj e he
  rw [List.mem_cons] at hj ⊢
  rcases hj with rfl | hj
  ·rw [ho] at hoj;cases hoj;exact .inr (hedge e he)
  ·exact .inr (h.closedP j oj hj hoj e he)
 have hval:∀j,j∈pre->(fun j=>if j=i then p else val j) j=val j:=fun j hj=>if_neg (fun (e:j=i)=>hni (e ▸ hj))
 refine ⟨h.closedE,hclP,?_,?_,fun j hj=>List.mem_cons_of_mem _ (h.sub j hj),?_,hx,hrow0.2,h.t⟩
 ·intro t
  refine ⟨fun j oj hj hoj hd=>?_,(h.frmE t).2⟩
  simp only [if_neg (hnE j hj)]
  exact (h.frmE t).1 j oj hj hoj hd
 ·have:=JR (val':=fun j=>if j=i then p else val j) R h.frmP ho (p:=p) (by simp) hval
  intro t
  refine ⟨fun j oj hj hoj hd=>(this t).1 j oj (List.mem_cons.1 hj) hoj hd,fun hno=>(this t).2 fun j oj hj hoj=>hno j oj (List.mem_cons.2 hj) hoj⟩
 ·intro j hj hnj
  rw [List.mem_cons] at hj
  by_cases hji:j=i
  ·subst hji
   refine ⟨o,ho,fun G' hG'=>?_⟩
   have s1:Qt ops (fun j'=>if j'=j then p else val j') F0 j o Fp:=by
    have:=JP R h.closedP h.frmP ho hni hedge
    intro t ht
    refine ⟨fun j' o' h1 h2 h3=>?_,(this t ht).2⟩
    simp only [if_neg (Nat.ne_of_lt h3)]
    exact (this t ht).1 j' o' h1 h2 h3
   have eq:=Za8 hG' s1
   simp only [if_pos]
   rcases hev with ⟨e1,e2⟩ | ⟨e1,e2⟩
   ·exact .inl ⟨by rw [JQ eq];exact e1,e2⟩
   ·exact .inr ⟨by rw [JQ eq];exact e1,fun S' hS'=>ZfC (e2 S' hS') (Za9 eq)⟩
  ·rcases hj with hj | hj
   ·exact absurd hj hji
   ·exact Zba R h.closedP hval hj (h.evid j hj hnj)
theorem ZfD {ops:Array Oper} {ids:Option (List Nat)} {S0:Store} {i:Nat} {is:Row} {K:(Nat->PV)->Store->Prop} {o:Oper} (ho:ops[i]?=some o) (h:PX P r n ops ids S0 (.pure i is) F S K) :
  (gd ops F o=some false/\PX P r n ops ids S0 is (zT F o.dst (.sc undef)) S K) \/
  (gd ops F o=some true/\∃p,(∀S',yB ids S0 S'->PO P r n o F S' (fun q S''=>q=p/\S''=S'))/\PX P r n ops ids S0 is (zT F o.dst p) S K):=by
 simp only [PX,ho] at h
 split at h
 ·exact h.elim
 ·rename_i hg;exact .inl ⟨hg,h⟩
 ·rename_i hg
  refine .inr ⟨hg,?_⟩
  split at h
  ·rename_i p hp;exact ⟨p,fun S' _=>Wb hp ⟨rfl,rfl⟩,h⟩
  ·split at h
   ·rename_i p hp;exact ⟨p,fun S' hS'=>ZfA hp S' hS',h⟩
   ·exact h
theorem ZfE {ops:Array Oper} {ids:Option (List Nat)} {S0:Store} {K:(Nat->PV)->Store->Prop} {pre:List Nat} {i:Nat} {o:Oper} (ho:ops[i]?=some o) (hr:uH ops pre i=true) :
  ∀(row:Row) (acc:List Nat),i ∉ acc->row.chain=true->jH ops pre acc row=true->PX P r n ops ids S0 row F S K ->
   ∃rest,jH ops (i :: pre) [] rest=true /\
    ((gd ops F o=some false/\PX P r n ops ids S0 rest (zT F o.dst (.sc undef)) S K)\/(gd ops F o=some true/\PO P r n o F S (fun p S'=>yB ids S0 S'/\PX P r n ops ids S0 rest (zT F o.dst p) S' K))):=by
 intro row
 induction row with
 | done=>intro acc _ h;cases h
 | pure j r _=>intro acc _ h;cases h
 | stop =>
  intro acc hacc _ hrow _
  simp only [jH,Bool.and_eq_true,List.all_eq_true,List.mem_range] at hrow
  have:=hrow.2 i (Array.getElem?_eq_some_iff.1 ho).1
  obtain ⟨_,_,_,hni⟩:=JS hr
  simp [hr,hni,hacc] at this
 | alt j rest more ih1 ih2 =>
  intro acc hacc _ hrow hpx
  simp only [jH,Bool.and_eq_true] at hrow
  simp only [PX] at hpx
  by_cases hij:i=j
  ·subst hij
   refine ⟨rest,hrow.1.1.2,?_⟩
   have h:=hpx.1
   simp only [ho] at h
   split at h
   ·exact h.elim
   ·rename_i hg;exact .inl ⟨hg,h⟩
   ·rename_i hg
    refine .inr ⟨hg,?_⟩
    split at h
    ·rename_i p S' hp;exact Qp hp h
    ·exact h
  ·exact ih2 (j :: acc) (by simp [hij,hacc]) hrow.2 hrow.1.2 hpx.2
theorem Zbc {ops:Array Oper} {ids:Option (List Nat)} {S0:Store} {F0:Nat->PV} {K:(Nat->PV)->Store->Prop} {E:Nat->Prop} {G Fp:Nat->PV} {val:Nat->PV} {pre:List Nat} {row:Row}
  (h:Mid P r n ops ids S0 F0 K E G S val pre row Fp) (hE:∀i,i<ops.size->E i):K G S:=by
 have hpre:∀i,i<ops.size->i∈pre:=fun i hi=>h.sub i (hE i hi)
 have noready:∀i,uH ops pre i=true->False:=by
  intro i hi
  obtain ⟨o,ho,_,hni⟩:=JS hi
  exact hni (hpre i (Array.getElem?_eq_some_iff.1 ho).1)
 have hK:K Fp S:=by
  have hrow:=h.row
  have hpx:=h.px
  cases row with
  | done=>exact hpx
  | pure i r'=>simp only [jH,Bool.and_eq_true] at hrow;exact (noready i hrow.1).elim
  | alt i r' m=>simp only [jH,Bool.and_eq_true] at hrow;exact (noready i hrow.1.1.1).elim
  | stop=>simp [jH] at hrow
 have:G=Fp:=by
  funext t
  by_cases hx:∃(j:Nat) (o:Oper),ops[j]?=some o/\o.dst=some t
  ·obtain ⟨j,o,h1,h2⟩:=hx
   have hj:=hE j (Array.getElem?_eq_some_iff.1 h1).1
   rw [(h.frmE t).1 j o hj h1 h2,(h.frmP t).1 j o (h.sub j hj) h1 h2]
  ·rw [(h.frmE t).2 fun j o _ h1 h2=>hx ⟨j,o,h1,h2⟩,(h.frmP t).2 fun j o _ h1 h2=>hx ⟨j,o,h1,h2⟩]
 rw [this];exact hK
theorem ZfF {ops:Array Oper} {Q':Exit->Act->World->Prop} (hN:∀o∈ops,∀d,o.dst=some d->d<N) (R:RegOk ops) {ids:Option (List Nat)} {Sb:Store} {F0:Nat->PV} {K:(Nat->PV)->Store->Prop}
  {C0:Ctx} {S0:Store} {w0:World} {ds:List Deferred}
  (hQ:∀F' S' C' w' a',K F' S'->St r C' S' w' N F' a'->a'.defers=ds->Step C0 S0 w0 C' S' w'->Q' .normal a' w') :
  ∀(fuel:Nat) (listed:Array Bool) (U:List Nat) (G:Nat->PV) (S:Store) (C:Ctx) (w:World) (a:Act) (val:Nat->PV) (pre:List Nat) (row:Row) (Fp:Nat->PV),
   listed.size=ops.size->U.length=fuel->(∀i,i<ops.size->listed.getD i false=false->i∈U) ->
   Mid P r n ops ids Sb F0 K (fun j=>listed.getD j false=true) G S val pre row Fp ->
   St r C S w N G a->a.defers=ds->Step C0 S0 w0 C S w->wpAnyIn (Fe r) n P .any ops Q' fuel listed a w:=by
 intro fuel
 induction fuel with
 | zero =>
  intro listed U G S C w a val pre row Fp hsz hU hcov hmid st hd step
  have hUe:U=[]:=List.eq_nil_of_length_eq_zero hU
  have hlisted:∀i,i<ops.size->listed.getD i false=true:=by
   intro i hi
   cases hb:listed.getD i false with
   | false=>have:=hcov i hi hb;rw [hUe] at this;cases this
   | true=>rfl
  refine ⟨?_,hQ G S C w a (Zbc hmid hlisted) st hd step⟩
  rw [List.eq_nil_iff_forall_not_mem]
  intro i hi
  obtain ⟨h1,o,ho,_⟩:=mem_ready.1 hi
  have hlt:=(Array.getElem?_eq_some_iff.1 ho).1
  have:=hlisted i hlt
  rw [Array.getD_eq_getD_getElem?] at h1 this
  rw [Array.getElem?_eq_getElem (by omega)] at h1 this
  simp only [Option.getD_some] at h1 this
  rw [h1] at this;cases this
 | succ fuel ih =>
  intro listed U G S C w a val pre row Fp hsz hU hcov hmid st hd step
  refine ⟨fun hr=>?_,fun i hi=>?_⟩
  ·have hlisted:∀i,i<ops.size->listed.getD i false=true:=by
    intro i
    induction i using Nat.strongRecOn with
    | _ i ihi =>
     intro hi
     cases hb:listed.getD i false with
     | true=>rfl
     | false =>
      have ho:ops[i]?=some (ops[i]'hi):=by simp
      have:i∈Region.ready .any ops listed:=by
       refine mem_ready.2 ⟨?_,ops[i]'hi,ho,fun e he hbd=>?_⟩
       ·rw [Array.getD_eq_getD_getElem?] at hb ⊢
        rw [Array.getElem?_eq_getElem (by omega)] at hb ⊢
        simpa using hb
       ·have hlt:=R.edge i _ ho e.on (by unfold xL;rw [List.mem_map];exact ⟨e,by rw [List.mem_filter];exact ⟨Array.mem_toList_iff.2 he,hbd⟩,rfl⟩)
        exact ihi e.on hlt (by omega)
      rw [hr] at this;cases this
   exact hQ G S C w a (Zbc hmid hlisted) st hd step
  ·obtain ⟨h1,o,ho,hafter⟩:=mem_ready.1 hi
   have hlt:i<ops.size:=(Array.getElem?_eq_some_iff.1 ho).1
   have hnE:¬(listed.getD i false=true):=by
    rw [Array.getD_eq_getD_getElem?] at h1 ⊢
    rw [Array.getElem?_eq_getElem (by omega)] at h1 ⊢
    simp only [Option.getD_some] at h1 ⊢
    rw [h1];simp
   have hedge:∀e∈xL o,listed.getD e false=true:=by
    intro e he
    unfold xL at he
    rw [List.mem_map] at he
    obtain ⟨x,hx,rfl⟩:=he
    rw [List.mem_filter] at hx
    exact hafter x (Array.mem_toList_iff.1 hx.1) hx.2
   have hdst:∀x,o.dst=some x->x<N:=by
    have:o∈ops:=by
     obtain ⟨h,rfl⟩:=Array.getElem?_eq_some_iff.1 ho
     exact Array.getElem_mem h
    exact hN o this
   have hiU:i∈U:=hcov i hlt (by simpa using hnE)
   have hset:∀j,(listed.setIfInBounds i true).getD j false=true<->j=i\/listed.getD j false=true:=by
    intro j
    rw [Array.getD_eq_getD_getElem?,Array.getD_eq_getD_getElem?,Array.getElem?_setIfInBounds]
    by_cases hji:i=j
    ·subst hji;simp [hsz,hlt]
    ·rw [if_neg hji]
     constructor
     ·exact .inr
     ·rintro (rfl | h)
      ·exact absurd rfl hji
      ·exact h
   have hpred:(fun j=>(listed.setIfInBounds i true).getD j false=true)=(fun j=>j=i\/listed.getD j false=true):=funext fun j=>propext (hset j)
   have hcl':ZS ops (fun j=>j=i\/listed.getD j false=true):=by
    intro j oj hj hoj e he
    rcases hj with rfl | hj
    ·rw [ho] at hoj;cases hoj;exact .inr (hedge e he)
    ·exact .inr (hmid.closedE j oj hj hoj e he)
   -- what follows,whichever way operation i has been carried out
   have cont:∀(val':Nat->PV) (pre':List Nat) (row':Row) (Fp':Nat->PV) (p:PV) (S':Store) (C':Ctx) (w':World) (v:Value),
     Mid P r n ops ids Sb F0 K (fun j=>j=i\/listed.getD j false=true) (zT G o.dst p) S' val' pre' row' Fp'->Rel C' S' w' p v->Sim C' S' w'->Step C S w C' S' w' ->
     wpAnyIn (Fe r) n P .any ops Q' fuel (listed.setIfInBounds i true) (a.put o.dst v) w':=by
    intro val' pre' row' Fp' p S' C' w' v hmid' hrel hs hstep
    refine ih _ (U.erase i) (zT G o.dst p) S' C' w' _ val' pre' row' Fp' (by simp [hsz]) (by rw [List.length_erase_of_mem hiU,hU];rfl) ?_ (by rw [hpred];exact hmid') (st.put hstep hs hdst hrel) (by rw [Qq];exact hd) (step.trans hstep)
    intro j hj hjl
    have hne:j≠i:=by
     intro e
     have:=(hset j).2 (.inl e)
     rw [this] at hjl;cases hjl
    have hjl':listed.getD j false=false:=by
     cases hb:listed.getD j false with
     | false=>rfl
     | true=>have:=(hset j).2 (.inr hb);rw [this] at hjl;cases hjl
    exact (List.mem_erase_of_ne hne).2 (hcov j hj hjl')
   -- operation i has been looked at ahead
   have known:∀(pre:List Nat) (row:Row) (val:Nat->PV) (Fp:Nat->PV),i∈pre->Mid P r n ops ids Sb F0 K (fun j=>listed.getD j false=true) G S val pre row Fp ->
     wpOpIn (Fe r) n P ops Q' i (wpAnyIn (Fe r) n P .any ops Q' fuel (listed.setIfInBounds i true)) a w:=by
    intro pre row val Fp hip hmid
    obtain ⟨o',ho',hev⟩:=hmid.evid i hip hnE
    rw [ho] at ho';cases ho'
    have hsee:=JP R hmid.closedE hmid.frmE ho hnE hedge
    unfold wpOpIn
    rw [ho]
    dsimp only
    have newmid:∀p,val i=p->Mid P r n ops ids Sb F0 K (fun j=>j=i\/listed.getD j false=true) (zT G o.dst p) S val pre row Fp:=fun p hp =>
     ⟨hcl',hmid.closedP,JR R hmid.frmE ho hp (fun _ _=>rfl),hmid.frmP,fun j hj=>hj.elim (fun e=>e ▸ hip) (hmid.sub j),fun j hj hn=>hmid.evid j hj (fun h=>hn (.inr h)),hmid.px,hmid.row,hmid.t⟩
    rcases hev G hsee with ⟨e1,e2⟩ | ⟨e1,e2⟩
    ·rw [Ze st e1]
     exact ⟨fun _ _=>trivial,cont val pre row Fp _ S C w _ (newmid _ e2) (.sc _) st.sim (.refl _ _ _)⟩
    ·rw [Ze st e1]
     refine e2 S hmid.t G (fun _ _=>rfl) C w a N st _ _ ?_
     rintro v w' C' S' p ⟨rfl,rfl⟩ hrel hs hstep
     exact cont val pre row Fp _ _ C' w' _ (newmid _ rfl) hrel hs hstep
   -- operation i is one that comes where operations may turn objects
   have chain:∀(pre:List Nat) (row:Row) (val:Nat->PV) (Fp:Nat->PV),row.chain=true->i ∉ pre->Mid P r n ops ids Sb F0 K (fun j=>listed.getD j false=true) G S val pre row Fp ->
     wpOpIn (Fe r) n P ops Q' i (wpAnyIn (Fe r) n P .any ops Q' fuel (listed.setIfInBounds i true)) a w:=by
    intro pre row val Fp hch hip hmid
    have hiedge:∀e∈xL o,e∈pre:=fun e he=>hmid.sub e (hedge e he)
    have hready:uH ops pre i=true:=by
     unfold uH
     rw [ho]
     simp only [Bool.and_eq_true,List.all_eq_true]
     exact ⟨fun e he=>by simpa using hiedge e he,by simpa using hip⟩
    obtain ⟨rest,hrow,hx⟩:=ZfE ho hready row [] (by simp) hch hmid.row hmid.px
    have s1:=JP R hmid.closedE hmid.frmE ho hnE hedge
    have s2:=JP R hmid.closedP hmid.frmP ho hip hiedge
    have eq:=Za8 s1 s2
    have newmid:∀(p:PV) (S':Store),PX P r n ops ids Sb rest (zT Fp o.dst p) S' K->yB ids Sb S'->Mid P r n ops ids Sb F0 K (fun j=>j=i\/listed.getD j false=true) (zT G o.dst p) S' (fun j=>if j=i then p else val j) (i :: pre) rest (zT Fp o.dst p):=by
     intro p S' hp hag
     have hvE:∀j,listed.getD j false=true->(fun j=>if j=i then p else val j) j=val j:=fun j hj=>if_neg (fun (e:j=i)=>hnE (e ▸ hj))
     have hvP:∀j,j∈pre->(fun j=>if j=i then p else val j) j=val j:=fun j hj=>if_neg (fun (e:j=i)=>hip (e ▸ hj))
     refine ⟨hcl',?_,JR R hmid.frmE ho (by simp) hvE,?_,?_,?_,hp,hrow,hag⟩
     ·intro j oj hj hoj e he
      rw [List.mem_cons] at hj ⊢
      rcases hj with rfl | hj
      ·rw [ho] at hoj;cases hoj;exact .inr (hiedge e he)
      ·exact .inr (hmid.closedP j oj hj hoj e he)
     ·have:=JR (val':=fun j=>if j=i then p else val j) R hmid.frmP ho (p:=p) (by simp) hvP
      intro t
      exact ⟨fun j oj hj hoj hd=>(this t).1 j oj (List.mem_cons.1 hj) hoj hd,fun hno=>(this t).2 fun j oj hj hoj=>hno j oj (List.mem_cons.2 hj) hoj⟩
     ·intro j hj
      rw [List.mem_cons]
      exact hj.imp id (hmid.sub j)
     ·intro j hj hn
      rw [List.mem_cons] at hj
      rcases hj with hj | hj
      ·exact absurd (.inl hj) hn
      ·exact Zba R hmid.closedP hvP hj (hmid.evid j hj (fun h=>hn (.inr h)))
    unfold wpOpIn
    rw [ho]
    dsimp only
    rcases hx with ⟨e1,hx⟩ | ⟨e1,hx⟩
    ·rw [Ze st ((JQ eq).trans e1)]
     exact ⟨fun _ _=>trivial,cont _ _ _ _ _ S C w _ (newmid _ S hx hmid.t) (.sc _) st.sim (.refl _ _ _)⟩
    ·rw [Ze st ((JQ eq).trans e1)]
     refine hx G (Za9 eq) C w a N st _ _ ?_
     rintro v w' C' S' p ⟨hag,hp⟩ hrel hsim hstep
     exact cont _ _ _ _ p S' C' w' v (newmid p S' hp hag) hrel hsim hstep
   -- the pure run is taken ahead until operation i has been met
   have adv:∀(row:Row) (pre:List Nat) (val:Nat->PV) (Fp:Nat->PV),Mid P r n ops ids Sb F0 K (fun j=>listed.getD j false=true) G S val pre row Fp ->
     wpOpIn (Fe r) n P ops Q' i (wpAnyIn (Fe r) n P .any ops Q' fuel (listed.setIfInBounds i true)) a w:=by
    intro row
    induction row with
    | done =>
     intro pre val Fp hmid
     have hrow:=hmid.row
     simp only [jH,List.all_eq_true,List.mem_range] at hrow
     exact known pre _ val Fp (by simpa using hrow i hlt) hmid
    | stop =>
     intro pre val Fp hmid
     by_cases hip:i∈pre
     ·exact known pre _ val Fp hip hmid
     ·exact chain pre _ val Fp rfl hip hmid
    | alt j r1 m _ _ =>
     intro pre val Fp hmid
     by_cases hip:i∈pre
     ·exact known pre _ val Fp hip hmid
     ·exact chain pre _ val Fp rfl hip hmid
    | pure j rest ihr =>
     intro pre val Fp hmid
     by_cases hip:i∈pre
     ·exact known pre _ val Fp hip hmid
     ·have hrow:=hmid.row
      simp only [jH,Bool.and_eq_true] at hrow
      obtain ⟨oj,hoj,_,_⟩:=JS hrow.1
      rcases ZfD hoj hmid.px with ⟨e1,hx⟩ | ⟨e1,p,e2,hx⟩
      ·exact ihr _ _ _ (Zbb R hmid hoj hx (.inl ⟨e1,rfl⟩))
      ·exact ihr _ _ _ (Zbb R hmid hoj hx (.inr ⟨e1,e2⟩))
   exact adv row pre val Fp hmid
theorem JT {id:Nat} {ops:Array Oper} (ids:Option (List Nat)) (row:Row) (hm:P.follows .mixedOrders=true) (hN:xx N ops=true) (hR:ZR ops=true) (hrow:jH ops [] [] row=true)
  (h:PX P r n ops ids S row F S (Q .normal)):PW P r n N (.region id ops true) Q F S:=by
 intro C w a st
 have R:=ZfB hR
 refine wpIn_region_any hm ?_
 obtain ⟨hs,hstep⟩:=st.sim.drew
 have st':St r C S w.drew N F a:=⟨hs,st.size,fun i=>(st.fr i).mono hstep,r.keep hstep st.v⟩
 have hnone:∀j,(Array.replicate ops.size false).getD j false=false:=by
  intro j
  rw [Array.getD_eq_getD_getElem?,Array.getElem?_replicate]
  split<;>rfl
 refine ZfF (Q':=fun e a' w'=>∃F' S' C',Q e F' S'/\St r C' S' w' N F' a'/\Defs w.heap.size a.defers C' S' w' a'.defers/\Step C S w C' S' w') (JN hN) R (ids:=ids) (Sb:=S) (F0:=F) (K:=Q .normal) (C0:=C) (S0:=S) (w0:=w) (ds:=a.defers)
  (fun F' S' C' w' a' hk hst hd hst2=>⟨F',S',C',hk,hst,.of_eq hd,hst2⟩) ops.size _ (List.range ops.size) F S C w.drew a (fun _=>.junk) [] row F (by simp) (by simp) (fun i hi _=>List.mem_range.2 hi) ?_ st' rfl hstep
 have hno:∀j,¬((Array.replicate ops.size false).getD j false=true):=fun j h=>by rw [hnone j] at h;cases h
 refine ⟨fun j o hj=>absurd hj (hno j),(fun j o hj=>nomatch hj),?_,?_,fun j hj=>absurd hj (hno j),(fun j hj=>nomatch hj),h,hrow,?_⟩
 ·exact fun t=>⟨fun j o hj=>absurd hj (hno j),fun _=>rfl⟩
 ·exact fun t=>⟨(fun j o hj=>nomatch hj),fun _=>rfl⟩
 ·cases ids with
  | none=>rfl
  | some l=>exact fun _ _=>rfl
end
end Go.Proofs.YtcnbiofjmioaiaaGreat.Pv
