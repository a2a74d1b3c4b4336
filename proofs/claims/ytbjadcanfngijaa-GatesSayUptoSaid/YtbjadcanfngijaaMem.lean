/- Small facts on memory that the walks share. -/
import Derived.Test.YtbjadcanfngijaaTree
namespace Go.Proofs.Ytbjadcanfngijaa
open Go.RowKit

/-- behind a call that leaves what was there: cells and marks read as before. -/
theorem old_of {B : Nat} {W w1 : World} (hb : Below B W w1) : (∀ b o, b < B → w1.cell? ⟨b, o, none⟩ = W.cell? ⟨b, o, none⟩) ∧ (∀ b o, b < B → w1.frozen? ⟨b, o, none⟩ = W.frozen? ⟨b, o, none⟩) :=
  ⟨fun b o h => hb.cell (p := ⟨b, o, none⟩) h, fun b o h => hb.frozen (p := ⟨b, o, none⟩) h⟩
end Go.Proofs.Ytbjadcanfngijaa
