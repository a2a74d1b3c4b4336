/- voltaiclaw.sameWay and slices.EqualFunc walked: two equal expressions are the same. -/
import Derived.Test.YtbjadcanfngijaaDual2
namespace Go.Proofs.Ytbjadcanfngijaa
open Go.RowKit

def SameOk (c d : WT) : Prop := ∀ (w : World) (B : Nat), B ≤ w.heap.size → c.In w B → d.In w B →
  Calls Try.prog 16 #[c.agg, d.agg] w fun e w' => e = .returned (.bool true) ∧ Below w.heap.size w w'

theorem WT.In.bare {w : World} {B c : Nat} {t : WT} (h : t.In w B) : WT.In w B ⟨0, 0, false, t.adr, c, t.args⟩ := by
  cases h with | mk _ here below => exact .mk _ here below

set_option maxHeartbeats 400000 in
theorem equal_func (l1 l2 : List WT) (a1 a2 : Option Addr) (c1 c2 n : Nat) (w : World) (B : Nat) (hB : B ≤ w.heap.size) (h1 : Hid (WT.In w B ⟨0, 0, false, a1, c1, l1⟩)) (h2 : Hid (WT.In w B ⟨0, 0, false, a2, c2, l2⟩))
    (hl1 : Hid (l1.length = n)) (hl2 : Hid (l2.length = n)) (hn : n ≤ 9223372036854775807) (ih : Hid (∀ i, i < n → ∀ c d : WT, l1[i]? = some c → l2[i]? = some d → SameOk c d)) :
    Calls Try.prog 23 #[.slice a1 n c1, .slice a2 n c2, .func (.func 16) #[] #[]] w fun e w' => e = .returned (.bool true) ∧ Below w.heap.size w w' := by
  have hne : ((n : Int) != (n : Int)) = false := by simp
  go_enter Try.func23, Try.ntmps23
  go_wp2_with fail
  go_loopw [17] (fun i wr => ∃ k : Nat, k ≤ n ∧ i = .int .i64 k ∧ Below w.heap.size w wr) (fun i _ => n - (intOf i).toNat)
  case atStart => exact ⟨0, by omega, rfl, Below.refl _ _⟩
  case round =>
    obtain ⟨k, hk, rfl, hb⟩ := hrel
    have hsz := hb.size
    by_cases hlt : k < n
    · have g1 := hl1.out
      have g2 := hl2.out
      obtain ⟨b1, o1, e1, hb1, p0, p1, p2, p3⟩ := (h1.out.below_ (hb.mono hB)).here (i := k) (Nat.lt_of_lt_of_eq hlt g1.symm)
      obtain ⟨b2, o2, e2, hb2, q0, q1, q2, q3⟩ := (h2.out.below_ (hb.mono hB)).here (i := k) (Nat.lt_of_lt_of_eq hlt g2.symm)
      simp only at e1 e2 p0 p1 p2 p3 q0 q1 q2 q3
      have hck := ih.out k hlt l1[k] l2[k] (List.getElem?_eq_getElem (by omega)) (List.getElem?_eq_getElem (by omega))
      have hi1 := (h1.out.kid (c := l1[k]) (show l1[k] ∈ l1 from List.getElem_mem (by omega))).below_ (hb.mono hB)
      have hi2 := (h2.out.kid (c := l2[k]) (show l2[k] ∈ l2 from List.getElem_mem (by omega))).below_ (hb.mono hB)
      obtain ⟨c, hc⟩ : ∃ c, c = l1[k]'(by omega) := ⟨_, rfl⟩
      obtain ⟨d, hd⟩ : ∃ d, d = l2[k]'(by omega) := ⟨_, rfl⟩
      rw [← hc] at p0 p1 p2 p3 hck hi1
      rw [← hd] at q0 q1 q2 q3 hck hi2
      have Hi := Lib.hid (And.intro hi1 hi2)
      clear hc hd g1 g2 hi1 hi2
      subst e1 e2
      have hkI : (k : Int) < (n : Int) := by omega
      have r0 : ∀ o, (wr.alloc o).cell? ⟨b2, _, none⟩ = some (.int .i64 d.kind) := fun o => (World.cell?_alloc_lt wr o ⟨b2, _, none⟩ (by show b2 < _; omega)).trans q0
      have r1 : ∀ o, (wr.alloc o).cell? ⟨b2, _, none⟩ = some (.int .i64 d.inp) := fun o => (World.cell?_alloc_lt wr o ⟨b2, _, none⟩ (by show b2 < _; omega)).trans q1
      have r2 : ∀ o, (wr.alloc o).cell? ⟨b2, _, none⟩ = some (.bool d.neg) := fun o => (World.cell?_alloc_lt wr o ⟨b2, _, none⟩ (by show b2 < _; omega)).trans q2
      have r3 : ∀ o, (wr.alloc o).cell? ⟨b2, _, none⟩ = some (.slice d.adr d.args.length d.cap) := fun o => (World.cell?_alloc_lt wr o ⟨b2, _, none⟩ (by show b2 < _; omega)).trans q3
      go_wp2_with fail
      refine (hck _ B ?_ ?_ ?_).mono ?_
      · simp; omega
      · exact (Hi.out.1.alloc (by omega) _).alloc (by simp; omega) _
      · exact (Hi.out.2.alloc (by omega) _).alloc (by simp; omega) _
      rintro e w1 ⟨rfl, hbx⟩
      have hbn : Below w.heap.size w w1 := ((hb.alloc (by omega) _).alloc (by simp; omega) _).trans (hbx.mono (by simp; omega))
      clear p0 p1 p2 p3 q0 q1 q2 q3 r0 r1 r2 r3
      go_wp2_with fail
      go_roundw
      case rel => exact ⟨k + 1, by omega, by go_num, hbn⟩
      case measure => simp [intOf]; omega
    · go_wp2_with fail
      go_ret
      exact ⟨rfl, hb⟩

set_option maxHeartbeats 400000 in
theorem same_node (kd i : Int) (ng : Bool) (l1 l2 : List WT) (a1 a2 : Option Addr) (c1 c2 n : Nat) (w : World) (B : Nat) (hB : B ≤ w.heap.size) (h1 : Hid (WT.In w B ⟨kd, i, ng, a1, c1, l1⟩)) (h2 : Hid (WT.In w B ⟨kd, i, ng, a2, c2, l2⟩))
    (hl1 : Hid (l1.length = n)) (hl2 : Hid (l2.length = n)) (hn : n ≤ 9223372036854775807) (ih : Hid (∀ i, i < n → ∀ c d : WT, l1[i]? = some c → l2[i]? = some d → SameOk c d)) :
    Calls Try.prog 16 #[.agg #[.int .i64 kd, .int .i64 i, .bool ng, .slice a1 n c1], .agg #[.int .i64 kd, .int .i64 i, .bool ng, .slice a2 n c2]] w fun e w' => e = .returned (.bool true) ∧ Below w.heap.size w w' := by
  have hk : (kd == kd) = true := by simp
  have hi : (i == i) = true := by simp
  go_enter Try.func16, Try.ntmps16
  go_wp2_with fail
  refine (equal_func l1 l2 a1 a2 c1 c2 n _ B ?_ ?_ ?_ hl1 hl2 hn ih).mono ?_
  · simp; omega
  · refine Lib.hid ?_
    exact ((h1.out.bare).alloc hB _).alloc (by simp; omega) _
  · refine Lib.hid ?_
    exact ((h2.out.bare).alloc hB _).alloc (by simp; omega) _
  rintro e w1 ⟨rfl, hb⟩
  go_wp2_with fail
  go_ret
  exact ⟨rfl, (((Below.refl _ _).alloc (Nat.le_refl _) _).alloc (by simp) _).trans (hb.mono (by simp; omega))⟩

theorem same_any : ∀ c : WT, c.Small → ∀ d : WT, c.strip = d.strip → SameOk c d := by
  refine WT.ind ?_
  rintro ⟨kd, i, ng, a1, c1, l1⟩ ih hs ⟨kd2, i2, ng2, a2, c2, l2⟩ he w B hB hin1 hin2
  rw [WT.strip_eq, WT.strip_eq] at he
  simp only [Way.mk.injEq] at he
  obtain ⟨rfl, rfl, rfl, hl⟩ := he
  have hlen : l2.length = l1.length := by have := congrArg List.length hl; simpa using this.symm
  unfold WT.agg
  simp only [hlen]
  refine same_node kd i ng l1 l2 a1 a2 c1 c2 l1.length w B hB (Lib.hid hin1) (Lib.hid hin2) (Lib.hid rfl) (Lib.hid hlen) hs.len (Lib.hid fun q hq c d h1 h2 => ?_)
  have hm : c ∈ l1 := List.mem_of_getElem? h1
  refine ih c hm (hs.kid hm) d ?_
  have : (l1.map WT.strip)[q]? = (l2.map WT.strip)[q]? := by rw [hl]
  rw [List.getElem?_map, List.getElem?_map, h1, h2] at this
  simpa using this
end Go.Proofs.Ytbjadcanfngijaa
