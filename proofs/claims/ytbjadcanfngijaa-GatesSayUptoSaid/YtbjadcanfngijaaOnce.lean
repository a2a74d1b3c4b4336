/- voltaiclaw.once walked: it tells whether each input stands in one switch at most, and writes into the map alone. -/
import Derived.Test.YtbjadcanfngijaaSeen
import Derived.Test.YtbjadcanfngijaaPlain5
namespace Go.Proofs.Ytbjadcanfngijaa
open Go.RowKit

structure SeenPost (b m : Nat) (s : List Int) (w w' : World) : Prop where
  seen : Seen w' b m s
  rest : w.grownBy w' (some b)

theorem SeenPost.alloc {b m : Nat} {s : List Int} {w w' : World} (h : SeenPost b m s w w') (o : Obj) : SeenPost b m s w (w'.alloc o) :=
  ⟨h.seen.alloc o, ⟨h.rest.os, h.rest.tape, h.rest.output, Nat.le_trans h.rest.size (by simp), fun i hi hne => (Below.heap_alloc w' o i (Nat.lt_of_lt_of_le hi h.rest.size)).trans (h.rest.block i hi hne)⟩⟩
theorem SeenPost.trans {b m m' : Nat} {s s' : List Int} {a w w' : World} (h : SeenPost b m s a w) (k : SeenPost b m' s' w w') : SeenPost b m' s' a w' :=
  ⟨k.seen, ⟨k.rest.os.trans h.rest.os, k.rest.tape.trans h.rest.tape, k.rest.output.trans h.rest.output, Nat.le_trans h.rest.size k.rest.size, fun i hi hne => (k.rest.block i (Nat.lt_of_lt_of_le hi h.rest.size) hne).trans (h.rest.block i hi hne)⟩⟩
theorem WT.In.seen {b B m : Nat} {s : List Int} {w w' : World} {t : WT} (h : t.In w B) (hB : B ≤ b) (hb : b < w.heap.size) (hp : SeenPost b m s w w') : t.In w' B :=
  h.keep fun b' o hlt => World.cell?_of_block (w := w) (hp.rest.block b' (by omega) (by rintro e; injection e; omega))

def OnceOk (c : WT) : Prop := ∀ (w : World) (B b n : Nat) (s : List Int), B ≤ b → c.In w B → Seen w b n s → n + c.strip.pre.length ≤ 1000 →
  Calls Try.prog 11 #[c.agg, .map (some b)] w fun e w' => e = .returned (.bool (c.strip.one s).1) ∧ SeenPost b (n + c.strip.pre.length) (c.strip.one s).2 w w'

set_option maxHeartbeats 400000 in
theorem once_switch (i : Int) (ng : Bool) (adr : Option Addr) (cp m : Nat) (w : World) (b n : Nat) (s : List Int) (hs : Seen w b n s) (hn : n ≤ 1000) (h0 : -9223372036854775808 ≤ i) (h1 : i ≤ 9223372036854775807) :
    Calls Try.prog 11 #[.agg #[.int .i64 1, .int .i64 i, .bool ng, .slice adr m cp], .map (some b)] w fun e w' => e = .returned (.bool (!decide (i ∈ s))) ∧ SeenPost b (n + 1) (i :: s) w w' := by
  obtain ⟨x, hx⟩ : ∃ x, x = decide (i ∈ s) := ⟨_, rfl⟩
  have hl := (hs.alloc (.cells #[.int .i64 1, .int .i64 i, .bool ng, .slice adr m cp] 29)).look (wf64 h0 h1)
  obtain ⟨w1, hu, hs1, hg1⟩ := (hs.alloc (.cells #[.int .i64 1, .int .i64 i, .bool ng, .slice adr m cp] 29)).put (wf64 h0 h1) (by unfold maxLen; omega)
  rw [← hx] at hl ⊢
  clear hx
  have P0 : SeenPost b n s w (w.alloc (.cells #[.int .i64 1, .int .i64 i, .bool ng, .slice adr m cp] 29)) := SeenPost.alloc ⟨hs, World.grownBy.refl w _⟩ _
  clear hs
  go_enter Try.func11, Try.ntmps11
  go_wp2_with fail
  go_ret
  exact ⟨rfl, P0.trans ⟨hs1, hg1⟩⟩

section
variable {n m : Nat} {j : Nat} {args : List WT} {L : List Way} {c : WT} {s s1 s2 : List Int} {r : Bool × List Int}
theorem ones_stop (hv : Hid (r = Way.ones ((args.drop j).map WT.strip) s)) (hj : j < args.length) (hc : Hid (c = args[j])) (h : Hid (c.strip.one s = (false, s1))) : r = (false, s1) := by
  rw [hv.out, List.drop_eq_getElem_cons hj, List.map_cons, ← hc.out, Way.ones, h.out]
  simp
theorem ones_on (hv : Hid (r = Way.ones ((args.drop j).map WT.strip) s)) (hj : j < args.length) (hc : Hid (c = args[j])) (h : Hid (c.strip.one s = (true, s1))) : Hid (r = Way.ones ((args.drop (j + 1)).map WT.strip) s1) := by
  have := hv.out
  rw [List.drop_eq_getElem_cons hj, List.map_cons, ← hc.out, Way.ones, h.out] at this
  simp only [if_true] at this
  exact this
theorem ones_end (hv : Hid (r = Way.ones ((args.drop j).map WT.strip) s)) (hj : ¬ j < args.length) : r = (true, s) := by
  rw [hv.out, List.drop_of_length_le (by omega)]; rfl
theorem kids_count (hj : j < args.length) (hc : Hid (c = args[j])) : (Way.pres ((args.drop j).map WT.strip)).length = c.strip.pre.length + (Way.pres ((args.drop (j + 1)).map WT.strip)).length := by
  rw [List.drop_eq_getElem_cons hj, List.map_cons, ← hc.out, Way.pres, List.length_append]
end

theorem bdone {e1 x : Bool} {s1 s2 : List Int} {b m m2 : Nat} {w w' : World} (hr : (e1, s1) = (x, s2)) (hP : SeenPost b m s2 w w') (hm : m ≤ m2) : Ending.returned (.bool x) = .returned (.bool e1) ∧ SeenPost b m2 s1 w w' := by
  obtain ⟨rfl, rfl⟩ := Prod.mk.inj hr
  exact ⟨rfl, hP.seen.mono hm, hP.rest⟩

set_option maxHeartbeats 800000 in
theorem once_node (kd i : Int) (ng : Bool) (adr : Option Addr) (cp : Nat) (args : List WT) (w : World) (B b n T : Nat) (s : List Int) (hB : B ≤ b) (hin : Hid (WT.In w B ⟨kd, i, ng, adr, cp, args⟩)) (hs : Hid (Seen w b n s)) (hkd : (kd == 1) = false)
    (hm : args.length ≤ 9223372036854775807) (hT : n + (Way.pres (args.map WT.strip)).length ≤ T) (hT2 : T ≤ 1000)
    (ih : Hid (∀ c ∈ args, OnceOk c)) (e1 : Bool) (s1 : List Int) (hr : Hid ((e1, s1) = Way.ones (args.map WT.strip) s)) :
    Calls Try.prog 11 #[.agg #[.int .i64 kd, .int .i64 i, .bool ng, .slice adr args.length cp], .map (some b)] w fun e w' => e = .returned (.bool e1) ∧ SeenPost b T s1 w w' := by
  have hb := hs.out.lt
  have P0 : SeenPost b n s w w := ⟨hs.out, World.grownBy.refl w _⟩
  go_enter Try.func11, Try.ntmps11
  go_wp2_with fail
  go_loopw [23] (fun q wr => ∃ (j m : Nat) (s2 : List Int), j ≤ args.length ∧ q = .int .i64 j ∧ Hid ((e1, s1) = Way.ones ((args.drop j).map WT.strip) s2) ∧ SeenPost b m s2 w wr ∧ Hid (m + (Way.pres ((args.drop j).map WT.strip)).length ≤ T)) (fun q _ => args.length - (intOf q).toNat)
  case atStart => exact ⟨0, n, s, by omega, rfl, hr, P0.alloc _, hT⟩
  case round =>
    obtain ⟨j, m, s2, hj, rfl, hv, hP, hm2⟩ := hrel
    clear P0
    by_cases hlt : j < args.length
    · obtain ⟨b2, o, had, hbB, c0, c1, c2, c3⟩ := (hin.out.seen hB hb hP).here (i := j) hlt
      simp only at had c0 c1 c2 c3
      have hck := ih.out _ (List.getElem_mem hlt)
      obtain ⟨c, hce⟩ : ∃ c, c = args[j] := ⟨_, rfl⟩
      rw [← hce] at c0 c1 c2 c3 hck
      have hinc := Lib.hid ((hin.out.kid (hce ▸ List.getElem_mem hlt)).seen hB hb (hP.alloc (.cells #[.int .i64 c.kind, .int .i64 c.inp, .bool c.neg, .slice c.adr c.args.length c.cap] 29)))
      have Hce := Lib.hid hce
      clear hce
      subst had
      have hkI : (j : Int) < (args.length : Int) := by omega
      have hct := Lib.hid (kids_count hlt Hce)
      go_wp2_with fail
      refine (hck _ B b m s2 hB hinc.out (hP.alloc _).seen (by have := hm2.out; have := hct.out; omega)).mono ?_
      rintro e w1 ⟨rfl, hP1⟩
      obtain ⟨⟨e2, s3⟩, hq⟩ : ∃ q : Bool × List Int, c.strip.one s2 = q := ⟨_, rfl⟩
      rw [hq] at hP1 ⊢
      simp only at hP1
      have hP2 := (hP.alloc _).trans hP1
      have hm3 := Lib.hid (show m + c.strip.pre.length + (Way.pres ((args.drop (j + 1)).map WT.strip)).length ≤ T by have := hm2.out; have := hct.out; omega)
      clear hP1 c0 c1 c2 c3
      cases e2
      · have Hq := Lib.hid hq
        clear hq
        go_wp2_with fail
        go_ret
        exact bdone (ones_stop hv hlt Hce Hq) hP2 (by have := hm3.out; omega)
      · have Hq := Lib.hid hq
        clear hq
        go_wp2_with fail
        go_roundw
        case rel => exact ⟨j + 1, m + c.strip.pre.length, s3, by omega, by go_num, ones_on hv hlt Hce Hq, hP2, hm3⟩
        case measure => simp [intOf]; omega
    · go_wp2_with fail
      go_ret
      exact bdone (ones_end hv hlt) hP (by have := hm2.out; omega)

theorem once_any (k : Nat) (hk : k ≤ 6) : ∀ c : WT, c.Small → c.strip.Good k → OnceOk c := by
  refine WT.ind ?_
  rintro ⟨kd, i, ng, adr, cp, args⟩ ih hsm hg w B b n s hB hin hs hT
  have hl := hsm.len
  simp only at hl
  rw [WT.strip_eq] at hg hT ⊢
  simp only at hg hT ⊢
  rw [Way.pre_eq] at hT ⊢
  simp only [Way.args, List.length_cons] at hT ⊢
  rcases hg.inv with ⟨hk1, h0, h1, ha⟩ | ⟨hk1, _, _, _, hgood⟩
  · simp only [Way.kind, Way.inp, Way.args] at hk1 h0 h1 ha
    subst hk1
    rw [ha]
    refine (once_switch i ng adr cp args.length w b n s hs (by omega) (by omega) (by omega)).mono ?_
    rintro e w' ⟨rfl, hP⟩
    exact bdone (by simp [Way.one]) hP (by omega)
  · simp only [Way.kind, Way.args] at hk1 hgood
    have hkid : ∀ c ∈ args, OnceOk c := fun c hc => ih c hc (hsm.kid hc) (hgood _ (List.mem_map_of_mem hc))
    obtain ⟨⟨e1, s1⟩, hq⟩ : ∃ q : Bool × List Int, q = Way.one (.mk kd i ng (args.map WT.strip)) s := ⟨_, rfl⟩
    rw [← hq]
    rw [Way.one, if_neg (by omega)] at hq
    exact once_node kd i ng adr cp args w B b n _ s hB (Lib.hid hin) (Lib.hid hs) (by simp; omega) hl (by omega) (by omega) (Lib.hid hkid) e1 s1 (Lib.hid hq)
end Go.Proofs.Ytbjadcanfngijaa
