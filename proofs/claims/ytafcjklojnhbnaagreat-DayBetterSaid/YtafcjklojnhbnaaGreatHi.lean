/- The document's example of a heap. -/
import Derived.Test.YtafcjklojnhbnaaGreatHh
namespace Go.Proofs.YtafcjklojnhbnaaGreat.Pv
open Go Hp

@[simp] theorem put3_zero (a b c : Ob) (l : List Ob) (o : Ob × Ob × Ob) : put3 (a :: b :: c :: l) 0 o = o.1 :: o.2.1 :: o.2.2 :: l := rfl

end Go.Proofs.YtafcjklojnhbnaaGreat.Pv
