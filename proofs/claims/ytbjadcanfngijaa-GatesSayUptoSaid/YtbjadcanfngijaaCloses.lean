/- voltaiclaw.closes walked: it returns true. -/
import Derived.Test.YtbjadcanfngijaaRisksWalk
namespace Go.Proofs.Ytbjadcanfngijaa
open Go.RowKit

def two (b : Nat) : WT := ⟨3, 0, false, some ⟨b, 0, none⟩, 2, [⟨1, 0, false, none, 0, []⟩, ⟨1, 0, true, none, 0, []⟩]⟩
def twoW : Way := .mk 3 0 false [.mk 1 0 false [], .mk 1 0 true []]
theorem two_strip (b : Nat) : (two b).strip = twoW := rfl
theorem two_small (b : Nat) : (two b).Small := .mk _ (by simp [two]) (fun c hc => by
  simp only [two, List.mem_cons, List.not_mem_nil, or_false] at hc
  rcases hc with rfl | rfl <;> exact .mk _ (by simp) (fun c hc => by cases hc))
theorem two_chk : Way.chk 1 twoW = 0 := by decide +kernel
theorem two_table : Way.table 1 twoW = (3, 0) := by decide +kernel
theorem two_closed : Way.closed [2] twoW = (2, 0) := by decide +kernel
theorem two_risks : Way.risks 1 twoW = [(0, 1)] := by decide +kernel

theorem two_in (w : World) (b : Nat) (h0 : w.cell? ⟨b, 0, none⟩ = some (.int .i64 1)) (h1 : w.cell? ⟨b, 1, none⟩ = some (.int .i64 0)) (h2 : w.cell? ⟨b, 2, none⟩ = some (.bool false)) (h3 : w.cell? ⟨b, 3, none⟩ = some (.slice none 0 0))
    (h4 : w.cell? ⟨b, 4, none⟩ = some (.int .i64 1)) (h5 : w.cell? ⟨b, 5, none⟩ = some (.int .i64 0)) (h6 : w.cell? ⟨b, 6, none⟩ = some (.bool true)) (h7 : w.cell? ⟨b, 7, none⟩ = some (.slice none 0 0)) : (two b).In w (b + 1) := by
  refine .mk _ (fun _ => ⟨b, 0, rfl, by omega, fun i hi => ?_⟩) (fun c hc => ?_)
  · simp only [two, List.length_cons, List.length_nil] at hi
    rcases (show i = 0 ∨ i = 1 by omega) with rfl | rfl
    · exact ⟨h0, h1, h2, h3⟩
    · exact ⟨h4, h5, h6, h7⟩
  · simp only [two, List.mem_cons, List.not_mem_nil, or_false] at hc
    rcases hc with rfl | rfl <;> exact .mk _ (fun h => by simp at h) (fun c hc => by cases hc)

set_option maxHeartbeats 400000 in
theorem closes_any (w : World) : Calls Try.prog 7 #[] w fun e w' => e = .returned (.bool true) ∧ Below w.heap.size w w' := by
  have ht := Lib.hid (table_any (two w.heap.size) (two_small _) 1)
  have hcl := Lib.hid (fun A => closed_any (two w.heap.size) (two_small _) [2] A 1)
  have hri := Lib.hid (risks_at (two w.heap.size) (two_small _) 1)
  go_enter Try.func7, Try.ntmps7
  go_wp2_with fail
  refine (ht.out _ (w.heap.size + 1) ?_ ?_).mono ?_
  · simp
  · exact Lib.hid (two_in _ _ (by simp [go_sem]) (by simp [go_sem]) (by simp [go_sem]) (by simp [go_sem]) (by simp [go_sem]) (by simp [go_sem]) (by simp [go_sem]) (by simp [go_sem]))
  rw [two_strip, two_table]
  rintro e w1 ⟨rfl, hb1⟩
  obtain ⟨hc1, hf1⟩ := old_of hb1
  have hs1 := hb1.size
  simp only [World.size_alloc] at hc1 hf1 hs1
  have bl1 : Below w.heap.size w w1 := (((Below.refl _ _).alloc (Nat.le_refl _) _).alloc (by simp) _).trans (hb1.mono (by simp; omega))
  have in1 : (two w.heap.size).In w1 (w.heap.size + 1) := two_in _ _ (by rw [hc1 _ _ (by omega)]; simp [go_sem]) (by rw [hc1 _ _ (by omega)]; simp [go_sem]) (by rw [hc1 _ _ (by omega)]; simp [go_sem]) (by rw [hc1 _ _ (by omega)]; simp [go_sem]) (by rw [hc1 _ _ (by omega)]; simp [go_sem]) (by rw [hc1 _ _ (by omega)]; simp [go_sem]) (by rw [hc1 _ _ (by omega)]; simp [go_sem]) (by rw [hc1 _ _ (by omega)]; simp [go_sem])
  have b0 : w1.cell? ⟨w.heap.size + 1, 0, none⟩ = some (.int .i64 3) := by rw [hc1 _ _ (by omega)]; simp [go_sem]
  have b1 : w1.cell? ⟨w.heap.size + 1, 1, none⟩ = some (.int .i64 0) := by rw [hc1 _ _ (by omega)]; simp [go_sem]
  have b2 : w1.cell? ⟨w.heap.size + 1, 2, none⟩ = some (.bool false) := by rw [hc1 _ _ (by omega)]; simp [go_sem]
  have b3 : w1.cell? ⟨w.heap.size + 1, 3, none⟩ = some (.slice (some ⟨w.heap.size, 0, none⟩) 2 2) := by rw [hc1 _ _ (by omega)]; simp [go_sem]
  clear hc1 hf1 hb1 ht
  go_wp2_with fail
  refine (hcl.out _ _ (w1.heap.size + 1) ?_ ?_ ?_ ?_).mono ?_
  · simp
  · exact Lib.hid ((in1.alloc (by omega) _).mono (by omega))
  · exact Lib.hid (IntsAt.new w1 [2] 3)
  · simp
  rw [two_strip, two_closed]
  rintro e w2 ⟨rfl, hb2⟩
  obtain ⟨hc2, hf2⟩ := old_of hb2
  have hs2 := hb2.size
  simp only [World.size_alloc] at hc2 hf2 hs2
  have bl2 : Below w1.heap.size w1 w2 := ((Below.refl _ _).alloc (Nat.le_refl _) _).trans (hb2.mono (by simp))
  have in2 : (two w.heap.size).In w2 (w.heap.size + 1) := in1.below_ (bl2.mono (by omega))
  have d0 := (bl2.cell (p := ⟨w.heap.size + 1, 0, none⟩) (by show _ + 1 < _; omega)).trans b0
  have d1 := (bl2.cell (p := ⟨w.heap.size + 1, 1, none⟩) (by show _ + 1 < _; omega)).trans b1
  have d2 := (bl2.cell (p := ⟨w.heap.size + 1, 2, none⟩) (by show _ + 1 < _; omega)).trans b2
  have d3 := (bl2.cell (p := ⟨w.heap.size + 1, 3, none⟩) (by show _ + 1 < _; omega)).trans b3
  clear hc2 hf2 hb2 hcl b0 b1 b2 b3
  go_wp2_with fail
  refine (hri.out w2 (w.heap.size + 1) (by omega) in2 (by rw [two_strip]; exact two_chk)).mono ?_
  rw [two_strip]
  rintro e w3 ⟨ad, ca, rfl, hp3, hb3⟩
  rw [two_risks] at hp3 ⊢
  have hs3 := hb3.size
  clear hri d0 d1 d2 d3
  go_wp2_with fail
  refine (equal_pairs 1 [(0, 1)] _ _ ca 1 (w3.heap.size + 1) _ (Lib.hid ⟨(hp3.alloc (Nat.le_refl _) _).mono (by omega), ?_⟩) (Lib.hid rfl) (by omega)).mono ?_
  · intro _
    refine ⟨w3.heap.size, 0, rfl, by omega, fun q hq => ?_⟩
    have : q = 0 := by simpa using hq
    subst this
    simp
  rintro e w4 ⟨rfl, n4, rfl⟩
  go_wp2_with fail
  go_ret
  exact ⟨rfl, below_drewN (((bl1.trans (bl2.mono (by omega))).trans (hb3.mono (by omega))).alloc (by omega) _) n4⟩
end Go.Proofs.Ytbjadcanfngijaa
