/- voltaiclaw.Names returns true: its three lists are the ones that it compares. -/
import Derived.Test.YtbjadcanfngijaaEq
namespace Go.Proofs.Ytbjadcanfngijaa
open Go.RowKit

theorem lt11 {k : Nat} (h : k < 11) : k = 0 ∨ k = 1 ∨ k = 2 ∨ k = 3 ∨ k = 4 ∨ k = 5 ∨ k = 6 ∨ k = 7 ∨ k = 8 ∨ k = 9 ∨ k = 10 := by omega

def limits : List Int := [4000, 8, 16, 12, 50, 6, 20, 6, 40]
def kinds : List Int := [1, 2, 3, 4, 5, 6, 7, 8, 1, 2, 3, 4, 1, 2, 1, 2, 3]

def limitCells : List Value := limits.map (Value.int .i64)
def kindCells : List Value := kinds.map (Value.int .i64)

theorem lit_at {W : World} {b D : Nat} {xs : List Int} {cs : List Value} (hcs : cs = xs.map (Value.int .i64)) (hb : b < D) (h : ∀ k : Nat, W.cell? ⟨b, k, none⟩ = cs[k]?) : IntsAt W D (some ⟨b, 0, none⟩) xs := by
  intro _
  refine ⟨_, 0, rfl, hb, fun k hk => ?_⟩
  rw [Nat.zero_add, h, hcs]
  simp [List.getElem?_eq_getElem hk]

theorem eq_call (n : Nat) (xs : List Int) (A B : Option Addr) (D : Nat) (W : World) (h1 : IntsAt W D A xs) (h2 : IntsAt W D B xs) (hn : xs.length = n) (hm : n ≤ 9223372036854775807) :
    Calls Try.prog 6 #[.slice A n n, .slice B n n] W fun e w' => e = .returned (.bool true) ∧ ∃ k, w' = W.drewN k :=
  (equal_ints_same n xs xs A B n n D W (Lib.hid ⟨h1, h2⟩) (Lib.hid ⟨hn, hn⟩) hm).mono fun e w' ⟨he, hk⟩ => ⟨by simpa using he, hk⟩

theorem names_world (w : World) (a b c d e : Obj) (m n : Nat) : Below w.heap.size w (((((((w.alloc a).alloc b).alloc c).alloc d).drewN m).alloc e).drewN n) := by
  have h1 := ((((Below.refl w.heap.size w).alloc (Nat.le_refl _) a).alloc (by simp) b).alloc (by simp; omega) c).alloc (by simp; omega) d
  exact below_drewN ((below_drewN h1 m).alloc (by simp; omega) e) n

set_option maxHeartbeats 1000000 in
theorem names_any (w : World) :
    Calls Try.prog 3 #[] w fun e w' => e = .returned (.bool true) ∧ Below w.heap.size w w' := by
  go_enter Try.func3, Try.ntmps3
  go_wp2_with fail
  go_loop [9] (fun i => ∃ k : Nat, k ≤ 11 ∧ i = .int .i64 k) (fun i => 11 - (intOf i).toNat)
  case atStart => exact ⟨0, Nat.zero_le _, rfl⟩
  case round =>
    obtain ⟨k, hk, rfl⟩ := hrel
    by_cases hlt : k < 11
    · have h11 := lt11 hlt
      clear hk hlt
      rcases h11 with rfl | rfl | rfl | rfl | rfl | rfl | rfl | rfl | rfl | rfl | rfl
      · go_wp2_with fail
        go_round
        case rel => exact ⟨1, by omega, rfl⟩
        case measure => simp [intOf]
      · go_wp2_with fail
        go_round
        case rel => exact ⟨2, by omega, rfl⟩
        case measure => simp [intOf]
      · go_wp2_with fail
        go_round
        case rel => exact ⟨3, by omega, rfl⟩
        case measure => simp [intOf]
      · go_wp2_with fail
        go_round
        case rel => exact ⟨4, by omega, rfl⟩
        case measure => simp [intOf]
      · go_wp2_with fail
        go_round
        case rel => exact ⟨5, by omega, rfl⟩
        case measure => simp [intOf]
      · go_wp2_with fail
        go_round
        case rel => exact ⟨6, by omega, rfl⟩
        case measure => simp [intOf]
      · go_wp2_with fail
        go_round
        case rel => exact ⟨7, by omega, rfl⟩
        case measure => simp [intOf]
      · go_wp2_with fail
        go_round
        case rel => exact ⟨8, by omega, rfl⟩
        case measure => simp [intOf]
      · go_wp2_with fail
        go_round
        case rel => exact ⟨9, by omega, rfl⟩
        case measure => simp [intOf]
      · go_wp2_with fail
        go_round
        case rel => exact ⟨10, by omega, rfl⟩
        case measure => simp [intOf]
      · go_wp2_with fail
        go_round
        case rel => exact ⟨11, by omega, rfl⟩
        case measure => simp [intOf]
    · go_wp2_with fail
      refine (eq_call 9 limits _ _ (w.heap.size + 4) _ (lit_at (cs := limitCells) rfl (by omega) ?_) (lit_at (cs := limitCells) rfl (by omega) ?_) rfl (by omega)).mono ?_
      · intro k; simp [go_sem]; rfl
      · intro k; simp [go_sem]; rfl
      rintro e w1 ⟨rfl, n1, rfl⟩
      go_wp2_with fail
      refine (eq_call 17 kinds _ _ (w.heap.size + 5) _ (lit_at (cs := kindCells) rfl (by omega) ?_) (lit_at (cs := kindCells) rfl (by omega) ?_) rfl (by omega)).mono ?_
      · intro k; simp [go_sem]; rfl
      · intro k; simp [go_sem]; rfl
      rintro e w2 ⟨rfl, n2, rfl⟩
      go_wp2_with fail
      go_ret
      exact ⟨rfl, names_world _ _ _ _ _ _ _ _⟩
end Go.Proofs.Ytbjadcanfngijaa
