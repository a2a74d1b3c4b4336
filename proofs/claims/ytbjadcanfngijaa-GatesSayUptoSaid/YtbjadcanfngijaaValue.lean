/- gates.value walked: at a well-formed expression it returns val, and touches nothing that was there. -/
import Derived.Test.YtbjadcanfngijaaTree
namespace Go.Proofs.Ytbjadcanfngijaa
open Go.RowKit

def ValueOk (xs : List Int) (A : Option Addr) (cx : Nat) (c : WT) : Prop := ∀ (w : World) (B : Nat), B ≤ w.heap.size → c.In w B → IntsAt w B A xs →
  Calls Try.prog 20 #[c.agg, .slice A xs.length cx] w fun e w' => e = .returned (.int .i64 (c.strip.val xs)) ∧ Below w.heap.size w w'

theorem ret_int {a b : Int} (h : a = b) : Ending.returned (.int .i64 a) = .returned (.int .i64 b) := by rw [h]

theorem drop_step {args : List WT} {k : Nat} (h : k < args.length) : (args.drop k).map WT.strip = args[k].strip :: (args.drop (k + 1)).map WT.strip := by
  rw [List.drop_eq_getElem_cons h, List.map_cons]

section
variable {xs : List Int} {s o0 out v : Int} {args : List WT} {k : Nat} {L : List Way} {c : WT}
theorem vals_hit (hv : Hid (Way.vals xs s o0 L = Way.vals xs s out ((args.drop k).map WT.strip))) (hk : k < args.length) (hc : Hid (c = args[k])) (h : Hid (v = c.strip.val xs)) (t : (v == s) = true) :
    s = Way.vals xs s o0 L := by
  rw [hv.out, drop_step hk, ← hc.out, Way.vals, ← h.out, if_pos (by simpa using t)]
theorem vals_two (hv : Hid (Way.vals xs s o0 L = Way.vals xs s out ((args.drop k).map WT.strip))) (hk : k < args.length) (hc : Hid (c = args[k])) (h : Hid (v = c.strip.val xs)) (t : (v == s) = false) (t2 : (v == 2) = true) :
    Hid (Way.vals xs s o0 L = Way.vals xs s 2 ((args.drop (k + 1)).map WT.strip)) := by
  have := hv.out
  rw [drop_step hk, ← hc.out, Way.vals, ← h.out, if_neg (by simpa using t), if_pos (by simpa using t2)] at this
  exact this
theorem vals_on (hv : Hid (Way.vals xs s o0 L = Way.vals xs s out ((args.drop k).map WT.strip))) (hk : k < args.length) (hc : Hid (c = args[k])) (h : Hid (v = c.strip.val xs)) (t : (v == s) = false) (t2 : (v == 2) = false) :
    Hid (Way.vals xs s o0 L = Way.vals xs s out ((args.drop (k + 1)).map WT.strip)) := by
  have := hv.out
  rw [drop_step hk, ← hc.out, Way.vals, ← h.out, if_neg (by simpa using t), if_neg (by simpa using t2)] at this
  exact this
theorem vals_end (hv : Hid (Way.vals xs s o0 L = Way.vals xs s out ((args.drop k).map WT.strip))) (hk : ¬ k < args.length) : out = Way.vals xs s o0 L := by
  rw [hv.out, List.drop_of_length_le (by omega)]; rfl
end

set_option maxHeartbeats 400000 in
theorem value_series (i : Int) (ng : Bool) (adr : Option Addr) (cp : Nat) (args : List WT) (xs : List Int) (A : Option Addr) (cx : Nat) (w : World) (B : Nat) (hB : B ≤ w.heap.size) (hin : Hid (WT.In w B ⟨2, i, ng, adr, cp, args⟩)) (hx : Hid (IntsAt w B A xs))
    (hlen : args.length ≤ 9223372036854775807)
    (ih : Hid (∀ c ∈ args, ValueOk xs A cx c)) :
    Calls Try.prog 20 #[.agg #[.int .i64 2, .int .i64 i, .bool ng, .slice adr args.length cp], .slice A xs.length cx] w fun e w' => e = .returned (.int .i64 (Way.vals xs 0 1 (args.map WT.strip))) ∧ Below w.heap.size w w' := by
  go_enter Try.func20, Try.ntmps20
  go_wp2_with fail
  go_loopw [36, 7] (fun i o wr => ∃ (k : Nat) (out : Int), k ≤ args.length ∧ i = .int .i64 k ∧ o = .int .i64 out ∧ Hid (Way.vals xs 0 1 (args.map WT.strip) = Way.vals xs 0 out ((args.drop k).map WT.strip)) ∧ Below w.heap.size w wr ∧ w.heap.size + 1 ≤ wr.heap.size) (fun i _ _ => args.length - (intOf i).toNat)
  case atStart => exact ⟨0, 1, by omega, rfl, rfl, rfl, (Below.refl _ _).alloc (Nat.le_refl _) _, by simp⟩
  case round =>
    obtain ⟨k, out, hk, rfl, rfl, hv, hb, hs⟩ := hrel
    by_cases hlt : k < args.length
    · obtain ⟨b, o, had, hbB, h0, h1, h2, h3⟩ := (hin.out.below_ (hb.mono hB)).here (i := k) hlt
      simp only at had h0 h1 h2 h3
      have hc := ih.out _ (List.getElem_mem hlt)
      obtain ⟨c, hce⟩ : ∃ c, c = args[k] := ⟨_, rfl⟩
      rw [← hce] at h0 h1 h2 h3 hc
      have Hce := Lib.hid hce
      clear hce
      subst had
      have hkI : (k : Int) < (args.length : Int) := by omega
      go_wp2_with fail
      refine (hc _ B ?_ ?_ ?_).mono ?_
      · simp; omega
      · exact ((hin.out.kid (Hce.out ▸ List.getElem_mem hlt)).below_ (hb.mono hB)).alloc (by omega) _
      · exact (hx.out.below (hb.mono hB)).alloc (by omega) _
      rintro e w1 ⟨rfl, hb1⟩
      have hbw : Below w.heap.size w w1 := (hb.alloc (by omega) _).trans (hb1.mono (by simp; omega))
      have hsz : w.heap.size + 1 ≤ w1.heap.size := by have := hb1.size; simp at this; omega
      obtain ⟨v, hve⟩ : ∃ v, v = c.strip.val xs := ⟨_, rfl⟩
      rw [← hve]
      have Hve := Lib.hid hve
      clear hve
      go_wp2_with fail
      · have t : (v == 0) = true := by assumption
        go_ret
        exact ⟨ret_int (vals_hit hv hlt Hce Hve t), hbw⟩
      · have t : (v == 0) = false := by assumption
        have t2 : (v == 2) = true := by assumption
        go_roundw
        case rel => exact ⟨k + 1, 2, by omega, by go_num, rfl, vals_two hv hlt Hce Hve t t2, hbw, hsz⟩
        case measure => simp [intOf]; omega
      · have t : (v == 0) = false := by assumption
        have t2 : (v == 2) = false := by assumption
        go_roundw
        case rel => exact ⟨k + 1, out, by omega, by go_num, rfl, vals_on hv hlt Hce Hve t t2, hbw, hsz⟩
        case measure => simp [intOf]; omega
    · go_wp2_with fail
      go_ret
      exact ⟨ret_int (vals_end hv hlt), hb⟩

set_option maxHeartbeats 400000 in
theorem value_parallel (i : Int) (ng : Bool) (adr : Option Addr) (cp : Nat) (args : List WT) (xs : List Int) (A : Option Addr) (cx : Nat) (w : World) (B : Nat) (hB : B ≤ w.heap.size) (hin : Hid (WT.In w B ⟨3, i, ng, adr, cp, args⟩)) (hx : Hid (IntsAt w B A xs))
    (hlen : args.length ≤ 9223372036854775807)
    (ih : Hid (∀ c ∈ args, ValueOk xs A cx c)) :
    Calls Try.prog 20 #[.agg #[.int .i64 3, .int .i64 i, .bool ng, .slice adr args.length cp], .slice A xs.length cx] w fun e w' => e = .returned (.int .i64 (Way.vals xs 1 0 (args.map WT.strip))) ∧ Below w.heap.size w w' := by
  go_enter Try.func20, Try.ntmps20
  go_wp2_with fail
  go_loopw [36, 7] (fun i o wr => ∃ (k : Nat) (out : Int), k ≤ args.length ∧ i = .int .i64 k ∧ o = .int .i64 out ∧ Hid (Way.vals xs 1 0 (args.map WT.strip) = Way.vals xs 1 out ((args.drop k).map WT.strip)) ∧ Below w.heap.size w wr ∧ w.heap.size + 1 ≤ wr.heap.size) (fun i _ _ => args.length - (intOf i).toNat)
  case atStart => exact ⟨0, 0, by omega, rfl, rfl, rfl, (Below.refl _ _).alloc (Nat.le_refl _) _, by simp⟩
  case round =>
    obtain ⟨k, out, hk, rfl, rfl, hv, hb, hs⟩ := hrel
    by_cases hlt : k < args.length
    · obtain ⟨b, o, had, hbB, h0, h1, h2, h3⟩ := (hin.out.below_ (hb.mono hB)).here (i := k) hlt
      simp only at had h0 h1 h2 h3
      have hc := ih.out _ (List.getElem_mem hlt)
      obtain ⟨c, hce⟩ : ∃ c, c = args[k] := ⟨_, rfl⟩
      rw [← hce] at h0 h1 h2 h3 hc
      have Hce := Lib.hid hce
      clear hce
      subst had
      have hkI : (k : Int) < (args.length : Int) := by omega
      go_wp2_with fail
      refine (hc _ B ?_ ?_ ?_).mono ?_
      · simp; omega
      · exact ((hin.out.kid (Hce.out ▸ List.getElem_mem hlt)).below_ (hb.mono hB)).alloc (by omega) _
      · exact (hx.out.below (hb.mono hB)).alloc (by omega) _
      rintro e w1 ⟨rfl, hb1⟩
      have hbw : Below w.heap.size w w1 := (hb.alloc (by omega) _).trans (hb1.mono (by simp; omega))
      have hsz : w.heap.size + 1 ≤ w1.heap.size := by have := hb1.size; simp at this; omega
      obtain ⟨v, hve⟩ : ∃ v, v = c.strip.val xs := ⟨_, rfl⟩
      rw [← hve]
      have Hve := Lib.hid hve
      clear hve
      go_wp2_with fail
      · have t : (v == 1) = true := by assumption
        go_ret
        exact ⟨ret_int (vals_hit hv hlt Hce Hve t), hbw⟩
      · have t : (v == 1) = false := by assumption
        have t2 : (v == 2) = true := by assumption
        go_roundw
        case rel => exact ⟨k + 1, 2, by omega, by go_num, rfl, vals_two hv hlt Hce Hve t t2, hbw, hsz⟩
        case measure => simp [intOf]; omega
      · have t : (v == 1) = false := by assumption
        have t2 : (v == 2) = false := by assumption
        go_roundw
        case rel => exact ⟨k + 1, out, by omega, by go_num, rfl, vals_on hv hlt Hce Hve t t2, hbw, hsz⟩
        case measure => simp [intOf]; omega
    · go_wp2_with fail
      go_ret
      exact ⟨ret_int (vals_end hv hlt), hb⟩


theorem switch_val (xs : List Int) (i : Int) (ng : Bool) : Way.val xs (.mk 1 i ng []) = if ng = true ∧ xs.getD i.toNat 0 < 2 then 1 - xs.getD i.toNat 0 else xs.getD i.toNat 0 := by simp [Way.val]

theorem value_switch (i : Int) (ng : Bool) (adr : Option Addr) (cp m : Nat) (xs : List Int) (A : Option Addr) (cx : Nat) (w : World) (B : Nat) (hB : B ≤ w.heap.size) (hx : Hid (IntsAt w B A xs))
    (h0 : 0 ≤ i) (hi : i < xs.length) (hr : ∀ j, 0 ≤ xs.getD j 0 ∧ xs.getD j 0 ≤ 2) :
    Calls Try.prog 20 #[.agg #[.int .i64 1, .int .i64 i, .bool ng, .slice adr m cp], .slice A xs.length cx] w fun e w' => e = .returned (.int .i64 (Way.val xs (.mk 1 i ng []))) ∧ Below w.heap.size w w' := by
  have hr0 := hr i.toNat
  obtain ⟨j, rfl⟩ := Int.eq_ofNat_of_zero_le h0
  obtain ⟨b, o, rfl, hb, hc⟩ := hx.out (by omega)
  have hcj := hc j (by omega)
  clear hc hr
  obtain ⟨r, hre⟩ : ∃ r, r = Way.val xs (.mk 1 (j : Int) ng []) := ⟨_, rfl⟩
  rw [← hre]
  rw [switch_val, Int.toNat_natCast] at hre
  rw [Int.toNat_natCast] at hr0
  obtain ⟨v, hve⟩ : ∃ v, v = xs.getD j 0 := ⟨_, rfl⟩
  rw [← hve] at hcj hr0 hre
  clear hve
  have Hre := Lib.hid hre
  clear hre
  obtain ⟨hr0, hr1⟩ := hr0
  have hc1 : ∀ o, (w.alloc o).cell? ⟨b, _, none⟩ = some (.int .i64 v) := fun o => (World.cell?_alloc_lt w o ⟨b, _, none⟩ (by show b < _; omega)).trans hcj
  clear hcj
  cases ng
  · go_enter Try.func20, Try.ntmps20
    go_wp2_with fail
    go_ret
    exact ⟨ret_int (by rw [Hre.out]; simp), (Below.refl _ _).alloc (Nat.le_refl _) _⟩
  · by_cases hv : v < 2
    · go_enter Try.func20, Try.ntmps20
      go_wp2_with fail
      go_ret
      exact ⟨ret_int (by rw [Hre.out]; simp; omega), (Below.refl _ _).alloc (Nat.le_refl _) _⟩
    · go_enter Try.func20, Try.ntmps20
      go_wp2_with fail
      go_ret
      exact ⟨ret_int (by rw [Hre.out]; simp; omega), (Below.refl _ _).alloc (Nat.le_refl _) _⟩

theorem value_any (xs : List Int) (A : Option Addr) (cx : Nat) (hr : ∀ j, 0 ≤ xs.getD j 0 ∧ xs.getD j 0 ≤ 2) : ∀ c : WT, c.Small → c.strip.Good xs.length → ValueOk xs A cx c := by
  refine WT.ind ?_
  rintro ⟨kd, i, ng, adr, cp, args⟩ ih hsm hg w B hB hin hx
  rw [WT.strip_eq] at hg ⊢
  simp only at hg ⊢
  rcases hg.inv with ⟨hk, h0, h1, ha⟩ | ⟨hk, h0, h1, ha, hgood⟩
  · simp only [Way.kind, Way.inp, Way.args] at hk h0 h1 ha
    subst hk
    rw [ha]
    exact value_switch i ng adr cp _ xs A cx w B hB (Lib.hid hx) h0 h1 hr
  · simp only [Way.kind, Way.inp, Way.neg, Way.args] at hk h0 h1 ha hgood
    have hkid : ∀ c ∈ args, ValueOk xs A cx c := fun c hc => ih c hc (hsm.kid hc) (hgood _ (List.mem_map_of_mem hc))
    rcases hk with rfl | rfl
    · exact (value_series i ng adr cp args xs A cx w B hB (Lib.hid hin) (Lib.hid hx) hsm.len (Lib.hid hkid)).mono fun e w' ⟨he, hb⟩ => ⟨he.trans (ret_int (by simp [Way.val])), hb⟩
    · exact (value_parallel i ng adr cp args xs A cx w B hB (Lib.hid hin) (Lib.hid hx) hsm.len (Lib.hid hkid)).mono fun e w' ⟨he, hb⟩ => ⟨he.trans (ret_int (by simp [Way.val])), hb⟩

end Go.Proofs.Ytbjadcanfngijaa
