/- The plain law, continued: the dual. -/
import Derived.Test.YtbjadcanfngijaaPlain3
namespace Go.Proofs.Ytbjadcanfngijaa
namespace Way
mutual
def dual : Way → Way
  | mk kd i n a => if kd = 2 then mk 3 0 false (duals a) else if kd = 3 then mk 2 0 false (duals a) else mk 1 i (!n) (duals a)
def duals : List Way → List Way
  | [] => []
  | a :: l => dual a :: duals l
end
theorem duals_map (l : List Way) : duals l = l.map dual := by
  induction l with
  | nil => rfl
  | cons a l ih => simp [duals, ih]
theorem pre_pos (t : Way) : 0 < t.pre.length := by rw [pre_eq]; simp
theorem pres_len (l : List Way) : l.length ≤ (pres l).length := by
  induction l with
  | nil => simp [pres]
  | cons a l ih => have := pre_pos a; simp [pres]; omega
theorem pres_mem {c : Way} {l : List Way} (hc : c ∈ l) : c.pre.length ≤ (pres l).length := by
  induction l with
  | nil => cases hc
  | cons a l ih =>
    rcases List.mem_cons.1 hc with rfl | hc
    · simp [pres]
    · have := ih hc; simp [pres]; omega
theorem args_len (t : Way) : t.args.length < t.pre.length := by rw [pre_eq]; have := pres_len t.args; simp; omega
theorem kid_len {t c : Way} (hc : c ∈ t.args) : c.pre.length < t.pre.length := by rw [pre_eq t]; have := pres_mem hc; simp; omega
end Way
end Go.Proofs.Ytbjadcanfngijaa
