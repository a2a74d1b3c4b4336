/- voltaicref.Leads walked: at a well-formed expression it returns val, and touches nothing that was there. -/
import Derived.Test.YtbjadcanfngijaaValue
import Derived.Test.YtbjadcanfngijaaKleene
import Derived.Test.YtbjadcanfngijaaDual2
namespace Go.Proofs.Ytbjadcanfngijaa
open Go.RowKit

def LeadsOk (xs : List Int) (A : Option Addr) (cx : Nat) (c : WT) : Prop := ∀ (w : World) (B : Nat), B ≤ w.heap.size → c.In w B → IntsAt w B A xs →
  Calls Try.prog 15 #[c.agg, .slice A xs.length cx] w fun e w' => e = .returned (.int .i64 (c.strip.val xs)) ∧ Below w.heap.size w w'

theorem count_step {vs : List Int} {k : Nat} {v : Int} (hk : k < vs.length) (hv : v = vs[k]) (a : Int) : (vs.take (k + 1)).count a = (vs.take k).count a + if v = a then 1 else 0 := by
  rw [List.take_succ_eq_append_getElem hk, List.count_append, ← hv, List.count_singleton]
  congr 1
  by_cases h : v = a <;> simp [h]
theorem count_all {vs : List Int} (h : ∀ v ∈ vs, v = 0 ∨ v = 1 ∨ v = 2) : vs.count 0 + vs.count 1 + vs.count 2 = vs.length := by
  induction vs with
  | nil => rfl
  | cons a l ih =>
    have := ih fun v hv => h v (List.mem_cons_of_mem _ hv)
    rw [List.count_cons, List.count_cons, List.count_cons, List.length_cons]
    rcases h a (List.mem_cons_self) with rfl | rfl | rfl <;> simp <;> omega
theorem count_le {vs : List Int} {k : Nat} (hk : k ≤ vs.length) (a : Int) : (vs.take k).count a ≤ k := by
  have := List.count_le_length (a := a) (l := vs.take k)
  simp at this
  omega

set_option maxHeartbeats 1600000 in
theorem leads_node (kd i : Int) (ng : Bool) (adr : Option Addr) (cp : Nat) (args : List WT) (xs : List Int) (A : Option Addr) (cx : Nat) (w : World) (B : Nat) (hB : B ≤ w.heap.size) (hin : Hid (WT.In w B ⟨kd, i, ng, adr, cp, args⟩)) (hx : Hid (IntsAt w B A xs))
    (hlen : args.length ≤ 9223372036854775807) (hkd : kd = 2 ∨ kd = 3) (vs : List Int) (hvs : Hid (vs = args.map fun c => c.strip.val xs)) (htri : Hid (∀ v ∈ vs, v = 0 ∨ v = 1 ∨ v = 2))
    (ih : Hid (∀ c ∈ args, LeadsOk xs A cx c)) :
    Calls Try.prog 15 #[.agg #[.int .i64 kd, .int .i64 i, .bool ng, .slice adr args.length cp], .slice A xs.length cx] w fun e w' => e = .returned (.int .i64 (if kd = 2 then Way.fold 0 1 vs else Way.fold 1 0 vs)) ∧ Below w.heap.size w w' := by
  have hvl : vs.length = args.length := by rw [hvs.out, List.length_map]
  have hk1 : (kd == 1) = false := by rcases hkd with rfl | rfl <;> rfl
  obtain ⟨w1, hw1⟩ : ∃ w1, w1 = w.alloc (.cells #[.int .i64 kd, .int .i64 i, .bool ng, .slice adr args.length cp] 29) := ⟨_, rfl⟩
  have Hw1 := Lib.hid hw1
  clear hw1
  obtain ⟨r, hr⟩ : ∃ r, r = (if kd = 2 then Way.fold 0 1 vs else Way.fold 1 0 vs) := ⟨_, rfl⟩
  rw [← hr]
  have Hr := Lib.hid hr
  clear hr
  go_enter Try.func15, Try.ntmps15
  go_wp2_with fail
  go_loopw [29, 6, 7] (fun q a b wr => ∃ (j n1 n2 : Nat), j ≤ args.length ∧ q = .int .i64 j ∧ a = .int .i64 n1 ∧ b = .int .i64 n2 ∧ Hid (n1 = (vs.take j).count 1 ∧ n2 = (vs.take j).count 2) ∧ Below (w.heap.size + 1) w1 wr) (fun q _ _ _ => args.length - (intOf q).toNat)
  case atStart => exact ⟨0, 0, 0, by omega, rfl, rfl, rfl, Lib.hid (by simp), by rw [Hw1.out]; exact Below.refl _ _⟩
  case round =>
    obtain ⟨j, n1, n2, hj, rfl, rfl, rfl, hc, hb⟩ := hrel
    have hbw : Below w.heap.size w wr := by
      have := hb
      rw [Hw1.out] at this
      exact ((Below.refl _ _).alloc (Nat.le_refl _) _).trans (this.mono (by omega))
    have hsz : w.heap.size + 1 ≤ wr.heap.size := by have := hb.size; rw [Hw1.out] at this; simpa using this
    have hl1 : n1 ≤ j := by rw [hc.out.1]; exact count_le (by omega) 1
    have hl2 : n2 ≤ j := by rw [hc.out.2]; exact count_le (by omega) 2
    by_cases hlt : j < args.length
    · obtain ⟨b, o, had, hbB, h0, h1, h2, h3⟩ := (hin.out.below_ (hbw.mono hB)).here (i := j) hlt
      simp only at had h0 h1 h2 h3
      have hcl := ih.out _ (List.getElem_mem hlt)
      obtain ⟨c, hce⟩ : ∃ c, c = args[j] := ⟨_, rfl⟩
      have hvj : c.strip.val xs = vs[j]'(by omega) := by simp only [hvs.out, List.getElem_map, hce]
      rw [← hce] at h0 h1 h2 h3 hcl
      have Hce := Lib.hid hce
      clear hce
      subst had
      have hkI : (j : Int) < (args.length : Int) := by omega
      go_wp2_with fail
      refine (hcl _ B ?_ ?_ ?_).mono ?_
      · simp; omega
      · exact ((hin.out.kid (Hce.out ▸ List.getElem_mem hlt)).below_ (hbw.mono hB)).alloc (by omega) _
      · exact (hx.out.below (hbw.mono hB)).alloc (by omega) _
      rintro e w2 ⟨rfl, hb2⟩
      have hbn : Below (w.heap.size + 1) w1 w2 := (hb.alloc (by omega) _).trans (hb2.mono (by simp; omega))
      obtain ⟨v, hve⟩ : ∃ v, v = c.strip.val xs := ⟨_, rfl⟩
      rw [← hve] at hvj ⊢
      have Hs1 := Lib.hid (count_step (show j < vs.length by omega) hvj 1)
      have Hs2 := Lib.hid (count_step (show j < vs.length by omega) hvj 2)
      clear hve hvj
      go_wp2_with fail
      · have t : (v == 1) = true := by assumption
        have t1 : v = 1 := by simpa using t
        go_roundw
        case rel => exact ⟨j + 1, n1 + 1, n2, by omega, by go_num, by go_num, rfl, Lib.hid ⟨by rw [Hs1.out, hc.out.1, if_pos t1], by rw [Hs2.out, hc.out.2, if_neg (by omega)]; omega⟩, hbn⟩
        case measure => simp [intOf]; omega
      · have t : (v == 1) = false := by assumption
        have t2 : (v == 2) = true := by assumption
        have t3 : v = 2 := by simpa using t2
        go_roundw
        case rel => exact ⟨j + 1, n1, n2 + 1, by omega, by go_num, rfl, by go_num, Lib.hid ⟨by rw [Hs1.out, hc.out.1, if_neg (by omega)]; omega, by rw [Hs2.out, hc.out.2, if_pos t3]⟩, hbn⟩
        case measure => simp [intOf]; omega
      · have t : (v == 1) = false := by assumption
        have t2 : (v == 2) = false := by assumption
        have t1 : ¬ v = 1 := by simpa using t
        have t3 : ¬ v = 2 := by simpa using t2
        go_roundw
        case rel => exact ⟨j + 1, n1, n2, by omega, by go_num, rfl, rfl, Lib.hid ⟨by rw [Hs1.out, hc.out.1, if_neg t1]; omega, by rw [Hs2.out, hc.out.2, if_neg t3]; omega⟩, hbn⟩
        case measure => simp [intOf]; omega
    · obtain rfl : j = args.length := by omega
      have hnew : w1.heap[w.heap.size]? = some (.cells #[.int .i64 kd, .int .i64 i, .bool ng, .slice adr args.length cp] 29 (0, 0)) := by rw [Hw1.out]; exact heap_alloc_new w _
      have hold : wr.heap[w.heap.size]? = some (.cells #[.int .i64 kd, .int .i64 i, .bool ng, .slice adr args.length cp] 29 (0, 0)) := (hb.block _ (by omega)).trans hnew
      have k0 : wr.cell? ⟨w.heap.size, 0, none⟩ = some (.int .i64 kd) := cell_at hold
      have k3 : wr.cell? ⟨w.heap.size, 3, none⟩ = some (.slice adr args.length cp) := cell_at hold
      have hall := count_all htri.out
      have e1 : n1 = vs.count 1 := by have := hc.out.1; rwa [List.take_of_length_le (by omega)] at this
      have e2 : n2 = vs.count 2 := by have := hc.out.2; rwa [List.take_of_length_le (by omega)] at this
      rw [← e1, ← e2, hvl] at hall
      have m0 : (0 : Int) ∈ vs ↔ 0 < vs.count 0 := List.count_pos_iff.symm
      have m1 : (1 : Int) ∈ vs ↔ 0 < n1 := by rw [e1]; exact List.count_pos_iff.symm
      have m2 : (2 : Int) ∈ vs ↔ 0 < n2 := by rw [e2]; exact List.count_pos_iff.symm
      obtain ⟨n0, hn0⟩ : ∃ n0, n0 = vs.count 0 := ⟨_, rfl⟩
      rw [← hn0] at hall m0
      obtain ⟨m, hm⟩ : ∃ m, m = args.length := ⟨_, rfl⟩
      have Hfold := Lib.hid (And.intro m0 (And.intro m1 m2))
      clear m0 m1 m2 e1 e2 hn0 hold hnew hc
      have hr : r = if kd = 2 then (if 0 < n0 then 0 else if 0 < n2 then 2 else 1) else (if 0 < n1 then 1 else if 0 < n2 then 2 else 0) := by
        rw [Hr.out]
        unfold Way.fold
        simp only [Hfold.out.1, Hfold.out.2.1, Hfold.out.2.2]
      clear Hfold Hr
      rw [← hm] at hall
      have hsub : (m : Int) - n1 - n2 = n0 := by omega
      rw [← hm] at k3 hl1 hl2 hlen
      have hsub1 : (m : Int) - n1 = ((m - n1 : Nat) : Int) := by omega
      have hsub2 : ((m - n1 : Nat) : Int) - n2 = n0 := by omega
      rcases hkd with rfl | rfl
      · rw [if_pos rfl] at hr
        by_cases g0 : 0 < n0
        · rw [if_pos g0] at hr
          subst hr
          have g0I : (0 : Int) < (n0 : Int) := by omega
          go_wp2_with fail
          go_ret
          exact ⟨rfl, hbw⟩
        · obtain rfl : n0 = 0 := by omega
          rw [if_neg g0] at hr
          by_cases g2 : 0 < n2
          · rw [if_pos g2] at hr
            subst hr
            have g2I : (0 : Int) < (n2 : Int) := by omega
            go_wp2_with fail
            go_ret
            exact ⟨rfl, hbw⟩
          · obtain rfl : n2 = 0 := by omega
            rw [if_neg g2] at hr
            subst hr
            go_wp2_with fail
            go_ret
            exact ⟨rfl, hbw⟩
      · rw [if_neg (by decide)] at hr
        by_cases g1 : 0 < n1
        · rw [if_pos g1] at hr
          subst hr
          have g1I : (0 : Int) < (n1 : Int) := by omega
          go_wp2_with fail
          go_ret
          exact ⟨rfl, hbw⟩
        · obtain rfl : n1 = 0 := by omega
          rw [if_neg g1] at hr
          by_cases g2 : 0 < n2
          · rw [if_pos g2] at hr
            subst hr
            have g2I : (0 : Int) < (n2 : Int) := by omega
            go_wp2_with fail
            go_ret
            exact ⟨rfl, hbw⟩
          · obtain rfl : n2 = 0 := by omega
            rw [if_neg g2] at hr
            subst hr
            go_wp2_with fail
            go_ret
            exact ⟨rfl, hbw⟩

theorem leads_switch (i : Int) (ng : Bool) (adr : Option Addr) (cp m : Nat) (xs : List Int) (A : Option Addr) (cx : Nat) (w : World) (B : Nat) (hB : B ≤ w.heap.size) (hx : Hid (IntsAt w B A xs))
    (h0 : 0 ≤ i) (hi : i < xs.length) (hr : ∀ j, 0 ≤ xs.getD j 0 ∧ xs.getD j 0 ≤ 2) :
    Calls Try.prog 15 #[.agg #[.int .i64 1, .int .i64 i, .bool ng, .slice adr m cp], .slice A xs.length cx] w fun e w' => e = .returned (.int .i64 (Way.val xs (.mk 1 i ng []))) ∧ Below w.heap.size w w' := by
  have hr0 := hr i.toNat
  obtain ⟨j, rfl⟩ := Int.eq_ofNat_of_zero_le h0
  obtain ⟨b, o, rfl, hb, hc⟩ := hx.out (by omega)
  have hcj := hc j (by omega)
  clear hc hr
  obtain ⟨r, hre⟩ : ∃ r, r = Way.val xs (.mk 1 (j : Int) ng []) := ⟨_, rfl⟩
  rw [← hre]
  rw [switch_val, Int.toNat_natCast] at hre
  rw [Int.toNat_natCast] at hr0
  obtain ⟨v, hve⟩ : ∃ v, v = xs.getD j 0 := ⟨_, rfl⟩
  rw [← hve] at hcj hr0 hre
  clear hve
  obtain ⟨hr0, hr1⟩ := hr0
  have hc1 : ∀ o, (w.alloc o).cell? ⟨b, _, none⟩ = some (.int .i64 v) := fun o => (World.cell?_alloc_lt w o ⟨b, _, none⟩ (by show b < _; omega)).trans hcj
  clear hcj
  have hv3 : v = 0 ∨ v = 1 ∨ v = 2 := by omega
  cases ng
  · obtain rfl : r = v := by rw [hre]; simp
    clear hre
    go_enter Try.func15, Try.ntmps15
    go_wp2_with fail
    go_ret
    exact ⟨rfl, (Below.refl _ _).alloc (Nat.le_refl _) _⟩
  · rcases hv3 with rfl | rfl | rfl
    · obtain rfl : r = 1 := by rw [hre]; simp
      clear hre
      go_enter Try.func15, Try.ntmps15
      go_wp2_with fail
      go_ret
      exact ⟨rfl, ((Below.refl _ _).alloc (Nat.le_refl _) _).alloc (by simp) _⟩
    · obtain rfl : r = 0 := by rw [hre]; simp
      clear hre
      go_enter Try.func15, Try.ntmps15
      go_wp2_with fail
      go_ret
      exact ⟨rfl, ((Below.refl _ _).alloc (Nat.le_refl _) _).alloc (by simp) _⟩
    · obtain rfl : r = 2 := by rw [hre]; simp
      clear hre
      go_enter Try.func15, Try.ntmps15
      go_wp2_with fail
      go_ret
      exact ⟨rfl, ((Below.refl _ _).alloc (Nat.le_refl _) _).alloc (by simp) _⟩

theorem leads_any (xs : List Int) (A : Option Addr) (cx : Nat) (hr : ∀ j, 0 ≤ xs.getD j 0 ∧ xs.getD j 0 ≤ 2) : ∀ c : WT, c.Small → c.strip.Good xs.length → LeadsOk xs A cx c := by
  refine WT.ind ?_
  rintro ⟨kd, i, ng, adr, cp, args⟩ ih hsm hg w B hB hin hx
  rw [WT.strip_eq] at hg ⊢
  simp only at hg ⊢
  rcases hg.inv with ⟨hk, h0, h1, ha⟩ | ⟨hk, h0, h1, ha, hgood⟩
  · simp only [Way.kind, Way.inp, Way.args] at hk h0 h1 ha
    subst hk
    rw [ha]
    exact leads_switch i ng adr cp _ xs A cx w B hB (Lib.hid hx) h0 h1 hr
  · simp only [Way.kind, Way.inp, Way.neg, Way.args] at hk h0 h1 ha hgood
    have hkid : ∀ c ∈ args, LeadsOk xs A cx c := fun c hc => ih c hc (hsm.kid hc) (hgood _ (List.mem_map_of_mem hc))
    have htx : Way.Tri xs := fun j => by have := hr j; omega
    refine (leads_node kd i ng adr cp args xs A cx w B hB (Lib.hid hin) (Lib.hid hx) hsm.len hk _ (Lib.hid rfl) (Lib.hid fun v hv => ?_) (Lib.hid hkid)).mono fun e w' ⟨he, hb⟩ => ⟨he.trans (ret_int ?_), hb⟩
    · obtain ⟨c, hc, rfl⟩ := List.mem_map.1 hv
      exact Way.val_tri htx (hgood _ (List.mem_map_of_mem hc))
    · rcases hk with rfl | rfl
      · rw [Way.val_series, List.map_map]; rfl
      · rw [Way.val_parallel, List.map_map]; rfl
end Go.Proofs.Ytbjadcanfngijaa
