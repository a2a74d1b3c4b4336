/- gates.check walked: it returns what the scan of the nodes says, and leaves what is left of the purse. -/
import Derived.Test.YtbjadcanfngijaaTree
namespace Go.Proofs.Ytbjadcanfngijaa
open Go.RowKit

/-- b holds v alone; all that was there but b is as it was. -/
structure Purse (b : Nat) (v : Int) (w w' : World) : Prop where
  at_ : w'.heap[b]? = some (.cells #[.int .i64 v] 3 (0, 0))
  rest : w.grownBy w' (some b)

theorem Purse.start {b : Nat} {v : Int} {w : World} (h : w.heap[b]? = some (.cells #[.int .i64 v] 3 (0, 0))) : Purse b v w w := ⟨h, World.grownBy.refl w _⟩
theorem Purse.alloc {b : Nat} {v : Int} {w w' : World} (h : Purse b v w w') (o : Obj) : Purse b v w (w'.alloc o) :=
  ⟨(Below.heap_alloc w' o b (lt_of_block h.at_)).trans h.at_, ⟨h.rest.os, h.rest.tape, h.rest.output, Nat.le_trans h.rest.size (by simp), fun i hi hne => (Below.heap_alloc w' o i (Nat.lt_of_lt_of_le hi h.rest.size)).trans (h.rest.block i hi hne)⟩⟩
theorem Purse.set_ {b : Nat} {v : Int} {w w' : World} (h : Purse b v w w') (u : Int) : Purse b u w (w'.setCell ⟨b, 0, none⟩ (.int .i64 u)) :=
  ⟨one_setCell h.at_, ⟨h.rest.os, h.rest.tape, h.rest.output, by simpa [World.setCell] using h.rest.size, fun i hi hne => (Below.heap_setCell w' ⟨b, 0, none⟩ _ i (by rintro rfl; exact hne rfl)).trans (h.rest.block i hi hne)⟩⟩
theorem Purse.trans {b : Nat} {v u : Int} {a w w' : World} (h : Purse b v a w) (k : Purse b u w w') : Purse b u a w' :=
  ⟨k.at_, ⟨k.rest.os.trans h.rest.os, k.rest.tape.trans h.rest.tape, k.rest.output.trans h.rest.output, Nat.le_trans h.rest.size k.rest.size, fun i hi hne => (k.rest.block i (Nat.lt_of_lt_of_le hi h.rest.size) hne).trans (h.rest.block i hi hne)⟩⟩
theorem WT.In.purse {b B : Nat} {v : Int} {w w' : World} {t : WT} (h : t.In w B) (hB : B ≤ b) (hb : b < w.heap.size) (hp : Purse b v w w') : t.In w' B :=
  h.keep fun b' o hlt => World.cell?_of_block (w := w) (hp.rest.block b' (by omega) (by rintro e; injection e; omega))

def CheckOk (k : Int) (c : WT) : Prop := ∀ (w : World) (B b : Nat) (n : Int), B ≤ b → c.In w B → 0 ≤ n → n ≤ 40 → w.heap[b]? = some (.cells #[.int .i64 n] 3 (0, 0)) →
  Calls Try.prog 22 #[c.agg, .int .i64 k, .pointer (some ⟨b, 0, none⟩)] w fun e w' => e = .returned (.int .i64 (Way.scan k c.strip.pre n).1) ∧ Purse b (Way.scan k c.strip.pre n).2 w w'

theorem done {e1 n1 x y : Int} {b : Nat} {w w' : World} (hr : (e1, n1) = (x, y)) (hP : Purse b y w w') : Ending.returned (.int .i64 x) = .returned (.int .i64 e1) ∧ Purse b n1 w w' := by
  obtain ⟨rfl, rfl⟩ := Prod.mk.inj hr
  exact ⟨rfl, hP⟩

set_option maxHeartbeats 400000 in
theorem check_switch (i : Int) (ng : Bool) (adr : Option Addr) (cp m : Nat) (k : Int) (w : World) (b : Nat) (n : Int) (h0 : 0 ≤ n) (h1 : n ≤ 40) (hp : w.heap[b]? = some (.cells #[.int .i64 n] 3 (0, 0))) (e1 n1 : Int)
    (hr : Hid ((e1, n1) = if 0 < m then (6, n) else if i < 0 ∨ k ≤ i then (4, n) else if n - 1 < 0 then (2, n - 1) else (0, n - 1))) :
    Calls Try.prog 22 #[.agg #[.int .i64 1, .int .i64 i, .bool ng, .slice adr m cp], .int .i64 k, .pointer (some ⟨b, 0, none⟩)] w fun e w' => e = .returned (.int .i64 e1) ∧ Purse b n1 w w' := by
  have hb := lt_of_block hp
  have hc : ∀ o, (w.alloc o).cell? ⟨b, 0, none⟩ = some (.int .i64 n) := fun o => cell_of_one ((Below.heap_alloc w o b hb).trans hp)
  have hf : ∀ o, (w.alloc o).frozen? ⟨b, 0, none⟩ = false := fun o => free_of_one ((Below.heap_alloc w o b hb).trans hp)
  have hc2 : (w.setCell ⟨b, 0, none⟩ (.int .i64 (n - 1))).cell? ⟨b, 0, none⟩ = some (.int .i64 (n - 1)) := cell_of_one (one_setCell hp)
  have P0 := Purse.start hp
  clear hp
  go_enter Try.func22, Try.ntmps22
  go_wp2_with fail
  · go_ret
    exact done (hr.out.trans (by rw [if_pos (by assumption)])) (P0.alloc _)
  · go_ret
    exact done (hr.out.trans (by rw [if_neg (by assumption), if_pos (by omega)])) (P0.alloc _)
  · go_ret
    exact done (hr.out.trans (by rw [if_neg (by assumption), if_neg (by omega), if_pos (by omega)])) ((P0.set_ _).alloc _)
  · go_ret
    exact done (hr.out.trans (by rw [if_neg (by assumption), if_neg (by omega), if_neg (by omega)])) ((P0.set_ _).alloc _)
  · go_ret
    exact done (hr.out.trans (by rw [if_neg (by assumption), if_pos (by omega)])) (P0.alloc _)

section
variable {k m m1 n e : Int} {j : Nat} {args : List WT} {L : List Way} {c : WT} {r : Int × Int}
theorem kids_stop (hv : Hid (r = Way.scan k (Way.pres ((args.drop j).map WT.strip)) m)) (hj : j < args.length) (hc : Hid (c = args[j])) (h : Hid (Way.scan k c.strip.pre m = (e, m1))) (t : (e != 0) = true) :
    r = (e, m1) := by
  rw [hv.out, List.drop_eq_getElem_cons hj, List.map_cons, ← hc.out, Way.scan_kids, h.out, if_neg (by simpa using t)]
theorem kids_on (hv : Hid (r = Way.scan k (Way.pres ((args.drop j).map WT.strip)) m)) (hj : j < args.length) (hc : Hid (c = args[j])) (h : Hid (Way.scan k c.strip.pre m = (e, m1))) (t : (e != 0) = false) :
    Hid (r = Way.scan k (Way.pres ((args.drop (j + 1)).map WT.strip)) m1) := by
  have := hv.out
  rw [List.drop_eq_getElem_cons hj, List.map_cons, ← hc.out, Way.scan_kids, h.out, if_pos (by simpa using t)] at this
  exact this
theorem kids_end (hv : Hid (r = Way.scan k (Way.pres ((args.drop j).map WT.strip)) m)) (hj : ¬ j < args.length) : r = (0, m) := by
  rw [hv.out, List.drop_of_length_le (by omega)]; rfl
theorem kids_purse (hm : 0 ≤ m) (h : Hid (Way.scan k c.strip.pre m = (e, m1))) (t : (e != 0) = false) : 0 ≤ m1 ∧ m1 ≤ m := by
  have h2 := Way.scan_le k c.strip.pre m hm (by rw [h.out]; simpa using t)
  rw [h.out] at h2
  exact ⟨h2.1, by have := h2.2; simp only at this; omega⟩
end

set_option maxHeartbeats 800000 in
theorem check_series (i : Int) (ng : Bool) (adr : Option Addr) (cp : Nat) (args : List WT) (k : Int) (w : World) (B b : Nat) (n : Int) (hB : B ≤ b) (hin : Hid (WT.In w B ⟨2, i, ng, adr, cp, args⟩)) (h0 : 0 ≤ n) (h1 : n ≤ 40) (hp : w.heap[b]? = some (.cells #[.int .i64 n] 3 (0, 0))) (e1 n1 : Int) (hm : args.length ≤ 9223372036854775807)
    (ih : Hid (∀ c ∈ args, CheckOk k c))
    (hr : Hid ((e1, n1) = if i ≠ 0 ∨ ng = true ∨ args.length = 0 then (6, n) else if n - 1 < 0 then (2, n - 1) else Way.scan k (Way.pres (args.map WT.strip)) (n - 1))) :
    Calls Try.prog 22 #[.agg #[.int .i64 2, .int .i64 i, .bool ng, .slice adr args.length cp], .int .i64 k, .pointer (some ⟨b, 0, none⟩)] w fun e w' => e = .returned (.int .i64 e1) ∧ Purse b n1 w w' := by
  have hb := lt_of_block hp
  have hc : ∀ o, (w.alloc o).cell? ⟨b, 0, none⟩ = some (.int .i64 n) := fun o => cell_of_one ((Below.heap_alloc w o b hb).trans hp)
  have hf : ∀ o, (w.alloc o).frozen? ⟨b, 0, none⟩ = false := fun o => free_of_one ((Below.heap_alloc w o b hb).trans hp)
  have hc2 : (w.setCell ⟨b, 0, none⟩ (.int .i64 (n - 1))).cell? ⟨b, 0, none⟩ = some (.int .i64 (n - 1)) := cell_of_one (one_setCell hp)
  have P0 := Purse.start hp
  clear hp
  by_cases hi : i = 0
  · subst hi
    cases ng
    · by_cases hl : args.length = 0
      · have Hr := Lib.hid (hr.out.trans (by rw [if_pos (by omega)]))
        have hz := List.length_eq_zero_iff.1 hl
        subst hz
        clear hr hl
        go_enter Try.func22, Try.ntmps22
        go_wp2_with fail
        go_ret
        exact done Hr.out (P0.alloc _)
      · have hl2 : ((args.length : Int) == 0) = false := by simp only [beq_eq_false_iff_ne, ne_eq]; omega
        by_cases hn : n - 1 < 0
        · have Hr := Lib.hid (hr.out.trans (by rw [if_neg (by simp; simpa using hl), if_pos (by omega)]))
          clear hr
          go_enter Try.func22, Try.ntmps22
          go_wp2_with fail
          go_ret
          exact done Hr.out ((P0.set_ _).alloc _)
        · have Hr := Lib.hid (hr.out.trans (by rw [if_neg (by simp; simpa using hl), if_neg (by omega)]))
          clear hr
          go_enter Try.func22, Try.ntmps22
          go_wp2_with fail
          go_loopw [64] (fun s wr => ∃ (j : Nat) (m : Int), j ≤ args.length ∧ s = .int .i64 j ∧ Hid ((e1, n1) = Way.scan k (Way.pres ((args.drop j).map WT.strip)) m) ∧ Purse b m w wr ∧ 0 ≤ m ∧ m ≤ 40) (fun s _ => args.length - (intOf s).toNat)
          case atStart => exact ⟨0, n - 1, by omega, rfl, Hr, (P0.set_ _).alloc _, by omega, by omega⟩
          case round =>
            obtain ⟨j, m, hj, rfl, hv, hP, hm0, hm1⟩ := hrel
            clear hc hc2 hf P0
            by_cases hlt : j < args.length
            · obtain ⟨b2, o, had, hbB, c0, c1, c2, c3⟩ := (hin.out.purse hB hb hP).here (i := j) hlt
              simp only at had c0 c1 c2 c3
              have hck := ih.out _ (List.getElem_mem hlt)
              obtain ⟨c, hce⟩ : ∃ c, c = args[j] := ⟨_, rfl⟩
              rw [← hce] at c0 c1 c2 c3 hck
              have Hce := Lib.hid hce
              clear hce
              subst had
              have hkI : (j : Int) < (args.length : Int) := by omega
              go_wp2_with fail
              refine (hck _ B b m hB ?_ hm0 hm1 (hP.alloc _).at_).mono ?_
              · exact (hin.out.kid (Hce.out ▸ List.getElem_mem hlt)).purse hB hb (hP.alloc _)
              rintro e w1 ⟨rfl, hP1⟩
              obtain ⟨⟨e2, m2⟩, hq⟩ : ∃ q : Int × Int, Way.scan k c.strip.pre m = q := ⟨_, rfl⟩
              rw [hq] at hP1 ⊢
              have Hq := Lib.hid hq
              clear hq
              simp only at hP1
              have hP2 := (hP.alloc _).trans hP1
              clear hP1 c0 c1 c2 c3
              go_wp2_with fail
              · have t : (e2 != 0) = true := by assumption
                go_ret
                exact done (kids_stop hv hlt Hce Hq t) hP2
              · have t : (e2 != 0) = false := by assumption
                have hm2 := kids_purse hm0 Hq t
                go_roundw
                case rel => exact ⟨j + 1, m2, by omega, by go_num, kids_on hv hlt Hce Hq t, hP2, hm2.1, by omega⟩
                case measure => simp [intOf]; omega
            · go_wp2_with fail
              go_ret
              exact done (kids_end hv hlt) hP
    · have Hr := Lib.hid (hr.out.trans (by rw [if_pos (by simp)]))
      clear hr
      go_enter Try.func22, Try.ntmps22
      go_wp2_with fail
      go_ret
      exact done Hr.out (P0.alloc _)
  · have hi2 : (i != 0) = true := by simpa using hi
    have Hr := Lib.hid (hr.out.trans (by rw [if_pos (.inl hi)]))
    clear hr
    go_enter Try.func22, Try.ntmps22
    go_wp2_with fail
    go_ret
    exact done Hr.out (P0.alloc _)

set_option maxHeartbeats 800000 in
theorem check_parallel (i : Int) (ng : Bool) (adr : Option Addr) (cp : Nat) (args : List WT) (k : Int) (w : World) (B b : Nat) (n : Int) (hB : B ≤ b) (hin : Hid (WT.In w B ⟨3, i, ng, adr, cp, args⟩)) (h0 : 0 ≤ n) (h1 : n ≤ 40) (hp : w.heap[b]? = some (.cells #[.int .i64 n] 3 (0, 0))) (e1 n1 : Int) (hm : args.length ≤ 9223372036854775807)
    (ih : Hid (∀ c ∈ args, CheckOk k c))
    (hr : Hid ((e1, n1) = if i ≠ 0 ∨ ng = true ∨ args.length = 0 then (6, n) else if n - 1 < 0 then (2, n - 1) else Way.scan k (Way.pres (args.map WT.strip)) (n - 1))) :
    Calls Try.prog 22 #[.agg #[.int .i64 3, .int .i64 i, .bool ng, .slice adr args.length cp], .int .i64 k, .pointer (some ⟨b, 0, none⟩)] w fun e w' => e = .returned (.int .i64 e1) ∧ Purse b n1 w w' := by
  have hb := lt_of_block hp
  have hc : ∀ o, (w.alloc o).cell? ⟨b, 0, none⟩ = some (.int .i64 n) := fun o => cell_of_one ((Below.heap_alloc w o b hb).trans hp)
  have hf : ∀ o, (w.alloc o).frozen? ⟨b, 0, none⟩ = false := fun o => free_of_one ((Below.heap_alloc w o b hb).trans hp)
  have hc2 : (w.setCell ⟨b, 0, none⟩ (.int .i64 (n - 1))).cell? ⟨b, 0, none⟩ = some (.int .i64 (n - 1)) := cell_of_one (one_setCell hp)
  have P0 := Purse.start hp
  clear hp
  by_cases hi : i = 0
  · subst hi
    cases ng
    · by_cases hl : args.length = 0
      · have Hr := Lib.hid (hr.out.trans (by rw [if_pos (by omega)]))
        have hz := List.length_eq_zero_iff.1 hl
        subst hz
        clear hr hl
        go_enter Try.func22, Try.ntmps22
        go_wp2_with fail
        go_ret
        exact done Hr.out (P0.alloc _)
      · have hl2 : ((args.length : Int) == 0) = false := by simp only [beq_eq_false_iff_ne, ne_eq]; omega
        by_cases hn : n - 1 < 0
        · have Hr := Lib.hid (hr.out.trans (by rw [if_neg (by simp; simpa using hl), if_pos (by omega)]))
          clear hr
          go_enter Try.func22, Try.ntmps22
          go_wp2_with fail
          go_ret
          exact done Hr.out ((P0.set_ _).alloc _)
        · have Hr := Lib.hid (hr.out.trans (by rw [if_neg (by simp; simpa using hl), if_neg (by omega)]))
          clear hr
          go_enter Try.func22, Try.ntmps22
          go_wp2_with fail
          go_loopw [64] (fun s wr => ∃ (j : Nat) (m : Int), j ≤ args.length ∧ s = .int .i64 j ∧ Hid ((e1, n1) = Way.scan k (Way.pres ((args.drop j).map WT.strip)) m) ∧ Purse b m w wr ∧ 0 ≤ m ∧ m ≤ 40) (fun s _ => args.length - (intOf s).toNat)
          case atStart => exact ⟨0, n - 1, by omega, rfl, Hr, (P0.set_ _).alloc _, by omega, by omega⟩
          case round =>
            obtain ⟨j, m, hj, rfl, hv, hP, hm0, hm1⟩ := hrel
            clear hc hc2 hf P0
            by_cases hlt : j < args.length
            · obtain ⟨b2, o, had, hbB, c0, c1, c2, c3⟩ := (hin.out.purse hB hb hP).here (i := j) hlt
              simp only at had c0 c1 c2 c3
              have hck := ih.out _ (List.getElem_mem hlt)
              obtain ⟨c, hce⟩ : ∃ c, c = args[j] := ⟨_, rfl⟩
              rw [← hce] at c0 c1 c2 c3 hck
              have Hce := Lib.hid hce
              clear hce
              subst had
              have hkI : (j : Int) < (args.length : Int) := by omega
              go_wp2_with fail
              refine (hck _ B b m hB ?_ hm0 hm1 (hP.alloc _).at_).mono ?_
              · exact (hin.out.kid (Hce.out ▸ List.getElem_mem hlt)).purse hB hb (hP.alloc _)
              rintro e w1 ⟨rfl, hP1⟩
              obtain ⟨⟨e2, m2⟩, hq⟩ : ∃ q : Int × Int, Way.scan k c.strip.pre m = q := ⟨_, rfl⟩
              rw [hq] at hP1 ⊢
              have Hq := Lib.hid hq
              clear hq
              simp only at hP1
              have hP2 := (hP.alloc _).trans hP1
              clear hP1 c0 c1 c2 c3
              go_wp2_with fail
              · have t : (e2 != 0) = true := by assumption
                go_ret
                exact done (kids_stop hv hlt Hce Hq t) hP2
              · have t : (e2 != 0) = false := by assumption
                have hm2 := kids_purse hm0 Hq t
                go_roundw
                case rel => exact ⟨j + 1, m2, by omega, by go_num, kids_on hv hlt Hce Hq t, hP2, hm2.1, by omega⟩
                case measure => simp [intOf]; omega
            · go_wp2_with fail
              go_ret
              exact done (kids_end hv hlt) hP
    · have Hr := Lib.hid (hr.out.trans (by rw [if_pos (by simp)]))
      clear hr
      go_enter Try.func22, Try.ntmps22
      go_wp2_with fail
      go_ret
      exact done Hr.out (P0.alloc _)
  · have hi2 : (i != 0) = true := by simpa using hi
    have Hr := Lib.hid (hr.out.trans (by rw [if_pos (.inl hi)]))
    clear hr
    go_enter Try.func22, Try.ntmps22
    go_wp2_with fail
    go_ret
    exact done Hr.out (P0.alloc _)

set_option maxHeartbeats 400000 in
theorem check_none (kd i : Int) (ng : Bool) (adr : Option Addr) (cp m : Nat) (k : Int) (w : World) (b : Nat) (n : Int) (hp : w.heap[b]? = some (.cells #[.int .i64 n] 3 (0, 0))) (h1 : (kd == 1) = false) (h2 : (kd == 2) = false) (h3 : (kd == 3) = false) :
    Calls Try.prog 22 #[.agg #[.int .i64 kd, .int .i64 i, .bool ng, .slice adr m cp], .int .i64 k, .pointer (some ⟨b, 0, none⟩)] w fun e w' => e = .returned (.int .i64 3) ∧ Purse b n w w' := by
  have P0 := Purse.start hp
  clear hp
  go_enter Try.func22, Try.ntmps22
  go_wp2_with fail
  go_ret
  exact ⟨rfl, P0.alloc _⟩

theorem check_any (k : Int) : ∀ c : WT, c.Small → CheckOk k c := by
  refine WT.ind ?_
  rintro ⟨kd, i, ng, adr, cp, args⟩ ih hsm w B b n hB hin h0 h1 hp
  have hkid : ∀ c ∈ args, CheckOk k c := fun c hc => ih c hc (hsm.kid hc)
  have hl := hsm.len
  simp only at hl
  have hs : Way.scan k (WT.strip ⟨kd, i, ng, adr, cp, args⟩).pre n = Way.node k (.mk kd i ng (args.map WT.strip)) n := by
    rw [Way.scan_node, WT.strip_eq]; rfl
  rw [hs]
  clear hs
  obtain ⟨⟨e1, n1⟩, hq⟩ : ∃ q : Int × Int, q = Way.node k (.mk kd i ng (args.map WT.strip)) n := ⟨_, rfl⟩
  rw [← hq]
  by_cases k1 : kd = 1
  · subst k1
    rw [Way.node_switch, List.length_map] at hq
    exact check_switch i ng adr cp args.length k w b n h0 h1 hp e1 n1 (Lib.hid hq)
  · by_cases k2 : kd = 2
    · subst k2
      rw [Way.node_many k 2 i ng _ n (by omega), List.length_map] at hq
      exact check_series i ng adr cp args k w B b n hB (Lib.hid hin) h0 h1 hp e1 n1 hl (Lib.hid hkid) (Lib.hid hq)
    · by_cases k3 : kd = 3
      · subst k3
        rw [Way.node_many k 3 i ng _ n (by omega), List.length_map] at hq
        exact check_parallel i ng adr cp args k w B b n hB (Lib.hid hin) h0 h1 hp e1 n1 hl (Lib.hid hkid) (Lib.hid hq)
      · rw [Way.node_none k kd i ng _ n k1 (by omega)] at hq
        obtain ⟨rfl, rfl⟩ := Prod.mk.inj hq
        exact check_none kd i ng adr cp args.length k w b n1 hp (by simpa using k1) (by simpa using k2) (by simpa using k3)

end Go.Proofs.Ytbjadcanfngijaa
