/- voltaicref.CheckWay walked: it returns chapter 14's Check, for expressions of a million nodes at most. -/
import Derived.Test.YtbjadcanfngijaaTodo
import Derived.Test.YtbjadcanfngijaaCheckTop
namespace Go.Proofs.Ytbjadcanfngijaa
open Go.RowKit

theorem own_zero {w : World} {base g : Nat} (hg : w.heap.size = g) (h : base ≤ g) : (w.alloc (.cells #[] 29)).ownsRow base 29 4 (.slice (some ⟨g, 0, none⟩) 0 0) ([] : List WT).length (([] : List WT).flatMap WT.cells) := by
  subst hg
  exact ⟨by simp, .inr ⟨w.heap.size, 0, #[], rfl, h, heap_alloc_new w _, by simp, by unfold maxLen; omega, by simp, by simp⟩⟩

theorem in_drew {w : World} {B : Nat} {t : WT} (h : t.In w B) : t.In w.drew B := h.keep fun _ _ _ => rfl
theorem WT.In.list {w : World} {B c : Nat} {t : WT} (h : t.In w B) : WT.In w B ⟨0, 0, false, t.adr, c, t.args⟩ := by
  cases h with | mk _ here below => exact .mk _ here below

theorem pre_len (l : List Way) : l.length ≤ (Way.pres l).length := by
  induction l with
  | nil => simp
  | cons a l ih => rw [Way.pres, Way.pre_eq]; simp; omega

structure TodoRel (w wr : World) (k : Int) (e : Int) (l : List WT) (A : Option Addr) (ca n : Nat) : Prop where
  below : Below w.heap.size w wr
  fit : l.length ≤ ca
  lies : WT.In wr wr.heap.size ⟨0, 0, false, A, ca, l⟩
  few : (Way.pres (l.map WT.strip)).length ≤ 1048577
  lo : 1 ≤ n
  hi : n ≤ 41
  res : e = (Way.scan k (Way.pres (l.map WT.strip)) (41 - n)).1
  siz : w.heap.size + 1 ≤ wr.heap.size

theorem todo_start {w : World} {k : Int} {c : WT} {B : Nat} {X : Obj} (hB : B ≤ w.heap.size) (h : c.In w B) (hf : c.strip.pre.length ≤ 1048577) :
    TodoRel w ((w.alloc X).alloc (.cells #[.int .i64 c.kind, .int .i64 c.inp, .bool c.neg, .slice c.adr c.args.length c.cap] 29)) k (Way.scan k c.strip.pre 40).1 [c] (some ⟨w.heap.size + 1, 0, none⟩) 1 1 := by
  refine ⟨((Below.refl _ _).alloc (Nat.le_refl _) _).alloc (by simp) _, by simp, ?_, by simpa [Way.pres] using hf, by omega, by omega, ?_, by simp⟩
  · refine .mk _ (fun _ => ⟨_, _, rfl, by simp, fun i hi => ?_⟩) (fun d hd => ?_)
    · obtain rfl : i = 0 := by simpa using hi
      have := heap_alloc_new (w.alloc X) (.cells #[.int .i64 c.kind, .int .i64 c.inp, .bool c.neg, .slice c.adr c.args.length c.cap] 29)
      rw [World.size_alloc] at this
      exact ⟨cell_at this, cell_at this, cell_at this, cell_at this⟩
    · obtain rfl : d = c := by simpa using hd
      exact ((h.alloc hB _).alloc (by simp; omega) _).mono (by simp; omega)
  · simp [Way.pres]

theorem todo_step {w wr w2 : World} {k e : Int} {x : WT} {r : List WT} {A A' : Option Addr} {ca c' n base : Nat} (h : TodoRel w wr k e (x :: r) A ca n) (hb : Below wr.heap.size wr w2) (hs : wr.heap.size + 1 ≤ w2.heap.size)
    (hown : w2.ownsRow base 29 4 (.slice A' (x.args ++ r).length c') (x.args ++ r).length ((x.args ++ r).flatMap WT.cells)) (hc : (x.args ++ r).length ≤ c')
    (hbad : Way.badOf k x.kind x.inp x.neg x.args.length = 0) (hn : n ≤ 40) : TodoRel w w2 k e (x.args ++ r) A' c' (n + 1) := by
  have hp : Way.pres ((x :: r).map WT.strip) = x.strip :: Way.pres ((x.args ++ r).map WT.strip) := by
    rw [List.map_cons, Way.pres, Way.pre_eq, List.map_append, Way.pres_append, List.cons_append, WT.strip_eq x]
    rfl
  have hl := h.few
  have hr := h.res
  rw [hp] at hl hr
  simp only [List.length_cons] at hl
  refine ⟨h.below.trans (hb.mono (by have := h.siz; omega)), hc, ?_, by omega, by omega, by omega, ?_, by have := h.siz; omega⟩
  · refine todo_own hown (Nat.le_refl _) fun c hcm => ?_
    have : c.In wr wr.heap.size := by
      rcases List.mem_append.1 hcm with hcm | hcm
      · exact (h.lies.kid (List.mem_cons_self)).kid hcm
      · exact h.lies.kid (List.mem_cons_of_mem _ hcm)
    exact (this.below_ hb).mono (by omega)
  · have hbd : Way.bad k x.strip = 0 := by
      rw [WT.strip_eq x]
      show Way.badOf k x.kind x.inp x.neg (x.args.map WT.strip).length = 0
      rw [List.length_map]
      exact hbad
    rw [Way.scan, if_neg (by simp [hbd]), if_neg (by omega)] at hr
    rw [hr]
    congr 2
    omega
theorem todo_bad {w wr : World} {k e : Int} {x : WT} {r : List WT} {A : Option Addr} {ca n : Nat} {y : Int} (h : TodoRel w wr k e (x :: r) A ca n) (hbad : Way.badOf k x.kind x.inp x.neg x.args.length = y) (hy : y ≠ 0) : e = y := by
  have hp : Way.pres ((x :: r).map WT.strip) = x.strip :: Way.pres ((x.args ++ r).map WT.strip) := by
    rw [List.map_cons, Way.pres, Way.pre_eq, List.map_append, Way.pres_append, List.cons_append, WT.strip_eq x]
    rfl
  have hbd : Way.bad k x.strip = y := by
    rw [WT.strip_eq x]
    show Way.badOf k x.kind x.inp x.neg (x.args.map WT.strip).length = y
    rw [List.length_map]
    exact hbad
  rw [h.res, hp, Way.scan, if_pos (by rw [hbd]; exact hy)]
  exact hbd
theorem todo_many {w wr : World} {k e : Int} {x : WT} {r : List WT} {A : Option Addr} {ca n : Nat} (h : TodoRel w wr k e (x :: r) A ca n) (hbad : Way.badOf k x.kind x.inp x.neg x.args.length = 0) (hn : 40 < n) : e = 2 := by
  have hp : Way.pres ((x :: r).map WT.strip) = x.strip :: Way.pres ((x.args ++ r).map WT.strip) := by
    rw [List.map_cons, Way.pres, Way.pre_eq, List.map_append, Way.pres_append, List.cons_append, WT.strip_eq x]
    rfl
  have hbd : Way.bad k x.strip = 0 := by
    rw [WT.strip_eq x]
    show Way.badOf k x.kind x.inp x.neg (x.args.map WT.strip).length = 0
    rw [List.length_map]
    exact hbad
  rw [h.res, hp, Way.scan, if_neg (by simp [hbd]), if_pos (by omega)]
theorem todo_grown {wr w1 : World} {X : Obj} {m : Nat} (hg : ((wr.alloc X).alloc (.cells #[] 29)).drew.grownBy w1 (Value.slice (some ⟨wr.heap.size + 1, 0, none⟩) 0 m).ownBlock) :
    Below wr.heap.size wr w1 ∧ wr.heap.size + 2 ≤ w1.heap.size ∧ w1.heap[wr.heap.size]? = some X := by
  have hs := hg.size
  simp only [World.size_drew, World.size_alloc] at hs
  have h1 : Below wr.heap.size wr ((wr.alloc X).alloc (.cells #[] 29)) := ((Below.refl _ _).alloc (Nat.le_refl _) _).alloc (by simp) _
  have h0 : Below wr.heap.size wr ((wr.alloc X).alloc (.cells #[] 29)).drew := ⟨h1.os, h1.tape, h1.output, h1.size, h1.block⟩
  refine ⟨h0.grown hg (by simp; omega) (by intro k hk; simp [Value.ownBlock] at hk; omega), by omega, ?_⟩
  rw [hg.block wr.heap.size (by simp; omega) (by simp [Value.ownBlock])]
  show (((wr.alloc X).alloc (.cells #[] 29))).heap[wr.heap.size]? = _
  rw [Below.heap_alloc _ _ _ (by simp)]
  exact heap_alloc_new wr X
theorem todo_grown2 {wr w1 w2 : World} {X : Obj} {A : Option Addr} {n c m : Nat} {xs : List Value} (h : Below wr.heap.size wr w1 ∧ wr.heap.size + 2 ≤ w1.heap.size ∧ w1.heap[wr.heap.size]? = some X) (hown : w1.ownsRow (wr.heap.size + 1) 29 4 (.slice A n c) m xs)
    (hg : w1.grownBy w2 (Value.slice A n c).ownBlock) : Below wr.heap.size wr w2 ∧ wr.heap.size + 2 ≤ w2.heap.size ∧ w2.heap[wr.heap.size]? = some X := by
  refine ⟨h.1.grown hg (by omega) (fun k hk => ?_), Nat.le_trans h.2.1 hg.size, ?_⟩
  · have := (hown.lt k hk).1; omega
  · rw [hg.block wr.heap.size (by omega) (own_lo hown (by omega))]
    exact h.2.2
theorem todo_end {w wr : World} {k e : Int} {A : Option Addr} {ca n : Nat} (h : TodoRel w wr k e [] A ca n) : e = 0 := by
  rw [h.res]; rfl
theorem todo_len {w wr : World} {k e : Int} {x : WT} {r : List WT} {A : Option Addr} {ca n : Nat} (h : TodoRel w wr k e (x :: r) A ca n) : x.args.length + r.length ≤ 1048577 := by
  have hp : Way.pres ((x :: r).map WT.strip) = x.strip :: Way.pres ((x.args ++ r).map WT.strip) := by
    rw [List.map_cons, Way.pres, Way.pre_eq, List.map_append, Way.pres_append, List.cons_append, WT.strip_eq x]
    rfl
  have hl := h.few
  rw [hp] at hl
  have := pre_len ((x.args ++ r).map WT.strip)
  simp at this hl
  omega

set_option maxRecDepth 100000 in
set_option maxHeartbeats 3200000 in
theorem ref_check (k : Int) (c : WT) (w : World) (B : Nat) (hB : B ≤ w.heap.size) (hin : Hid (c.In w B)) (hf : c.strip.pre.length ≤ 1048577) :
    Calls Try.prog 12 #[c.agg, .int .i64 k] w fun e w' => e = .returned (.int .i64 (Way.chk k c.strip)) ∧ Below w.heap.size w w' := by
  obtain ⟨r, hr⟩ : ∃ r, r = Way.chk k c.strip := ⟨_, rfl⟩
  rw [← hr]
  unfold Way.chk at hr
  by_cases h0 : k < 0
  · rw [if_pos (.inl h0)] at hr
    subst hr
    unfold WT.agg
    go_enter Try.func12, Try.ntmps12
    go_wp2_with fail
    go_ret
    exact ⟨rfl, (Below.refl _ _).alloc (Nat.le_refl _) _⟩
  by_cases h6 : 6 < k
  · rw [if_pos (.inr h6)] at hr
    subst hr
    unfold WT.agg
    go_enter Try.func12, Try.ntmps12
    go_wp2_with fail
    go_ret
    exact ⟨rfl, (Below.refl _ _).alloc (Nat.le_refl _) _⟩
  rw [if_neg (by omega)] at hr
  have hst := fun X => todo_start (k := k) (X := X) hB hin.out hf
  rw [← hr] at hst
  have Hst := Lib.hid hst
  clear hst hr
  unfold WT.agg
  go_enter Try.func12, Try.ntmps12
  go_wp2_with fail
  go_loopw [5, 6] (fun v s wr => ∃ (l : List WT) (A : Option Addr) (ca n : Nat), v = .slice A l.length ca ∧ s = .int .i64 n ∧ TodoRel w wr k r l A ca n) (fun _ s _ => 43 - (intOf s).toNat)
  case atStart => exact ⟨[c], _, 1, 1, rfl, rfl, Hst.out _⟩
  case round =>
    obtain ⟨l, A, ca, n, rfl, rfl, hR⟩ := hrel
    have hsz := hR.siz
    rcases l with _ | ⟨⟨kd, ip, ng, xa, xc, xargs⟩, l⟩
    · have he := todo_end hR
      subst he
      have hbel := hR.below
      clear hR
      go_wp2_with fail
      go_ret
      exact ⟨rfl, hbel⟩
    · obtain ⟨b2, o, had, hbB, c0, c1, c2, c3⟩ := hR.lies.here (i := 0) (by simp)
      simp only [Nat.zero_mul, Nat.add_zero, List.getElem_cons_zero] at had c0 c1 c2 c3
      subst had
      have hn := hR.hi
      have hfit := hR.fit
      have hlen := todo_len hR
      simp only at hlen
      have hge : (1 : Int) ≤ (l.length : Int) + 1 := by omega
      have hge2 : (0 : Int) ≤ (l.length : Int) := by omega
      have Hl := Lib.hid hR.lies
      have HR := Lib.hid hR
      clear hR
      obtain ⟨L, hL⟩ : ∃ L, L = xargs ++ l := ⟨_, rfl⟩
      have HL := Lib.hid hL
      clear hL
      go_wp2_with fail
      go_region_law (first
        | (refine step_append_ways _ (by rfl) _ _ (by rfl) (wr.heap.size + 1) _ [] xargs xargs rfl (by rfl) (own_zero (w := wr.alloc (Obj.cells #[.int .i64 kd, .int .i64 ip, .bool ng, .slice xa xargs.length xc] 29)) (g := wr.heap.size + 1) (by simp) (by omega))
             wr.heap.size xa xc (by rfl) (in_drew ((((Hl.out.kid List.mem_cons_self).list).alloc (Nat.le_refl _) _).alloc (by simp) _)) (by simp <;> omega) (by simp <;> omega) ?_
           intro A1 cp1 w1 hf1 hown1 hg1
           have hb1 := todo_grown hg1)
        | (refine step_append_ways _ (by rfl) _ _ (by rfl) (wr.heap.size + 1) _ xargs l L HL.out (by rfl) hown1
             wr.heap.size _ _ (by rfl) (todo_rest (c' := ca - 1) (Hl.out.below_ hb1.1) hfit) (by omega) (by have := hb1.2; omega) ?_
           intro A2 cp2 w2 hf2 hown2 hg2
           have hb2 := todo_grown2 hb1 hown1 hg2))
      all_goals
        generalize hZ : (if ca = 1 then (some { block := b2, off := o } : Option Addr) else some { block := b2, off := o + 4 }) = Z
        clear hZ
        have k0 : w2.cell? ⟨wr.heap.size, 0, none⟩ = some (.int .i64 kd) := cell_at hb2.2.2
        have k1 : w2.cell? ⟨wr.heap.size, 1, none⟩ = some (.int .i64 ip) := cell_at hb2.2.2
        have k2 : w2.cell? ⟨wr.heap.size, 2, none⟩ = some (.bool ng) := cell_at hb2.2.2
        have k3 : w2.cell? ⟨wr.heap.size, 3, none⟩ = some (.slice xa xargs.length xc) := cell_at hb2.2.2
        have hs2 := hb2.2.1
        have hbel : Below w.heap.size w w2 := HR.out.below.trans (hb2.1.mono (by omega))
        have Hb2 := Lib.hid hb2.1
        have Hown := Lib.hid (HL.out ▸ hown2)
        have Hf := Lib.hid (HL.out ▸ hf2)
        clear c0 c1 c2 c3 hb2 hb1 hown1 hown2 hg1 hg2 hf1 hf2 hfit hge
        obtain ⟨m, hm⟩ : ∃ m, m = xargs.length := ⟨_, rfl⟩
        rw [← hm] at k3
        have Hm := Lib.hid hm
        clear hm
        obtain ⟨bd, hbd⟩ : ∃ bd, Way.badOf k kd ip ng m = bd := ⟨_, rfl⟩
        have Hbad : bd ≠ 0 → r = bd := fun h => todo_bad HR.out (by simp only; rw [← Hm.out]; exact hbd) h
        have Hmany : bd = 0 → 40 < n → r = 2 := fun h => todo_many HR.out (by simp only; rw [← Hm.out]; exact hbd.trans h)
        have Hstep : Hid (bd = 0 → n ≤ 40 → TodoRel w w2 k r L A2 cp2 (n + 1)) := Lib.hid (fun h h2 => by
          have := todo_step HR.out Hb2.out (by omega) Hown.out Hf.out (by simp only; rw [← Hm.out]; exact hbd.trans h) h2
          rw [HL.out]; exact this)
        have hmI : (0 : Int) ≤ (m : Int) := by omega
        have hm1 : (0 : Int) < (m : Int) + 1 := by omega
        have hm2 : ¬ (m : Int) + 1 = 0 := by omega
        by_cases g1 : kd < 1
        · obtain rfl : bd = 3 := by rw [← hbd]; unfold Way.badOf; rw [if_neg (by omega), if_neg (by omega)]
          obtain rfl : r = 3 := Hbad (by decide)
          clear Hbad Hmany Hstep
          go_wp2_with fail
          go_ret
          exact ⟨rfl, hbel⟩
        by_cases g3 : 3 < kd
        · obtain rfl : bd = 3 := by rw [← hbd]; unfold Way.badOf; rw [if_neg (by omega), if_neg (by omega)]
          obtain rfl : r = 3 := Hbad (by decide)
          clear Hbad Hmany Hstep
          go_wp2_with fail
          go_ret
          exact ⟨rfl, hbel⟩
        by_cases e1 : kd = 1
        · subst e1
          rcases m with _ | m
          · by_cases i0 : ip < 0
            · obtain rfl : bd = 4 := by rw [← hbd]; unfold Way.badOf; simp [i0]
              obtain rfl : r = 4 := Hbad (by decide)
              clear Hbad Hmany Hstep
              go_wp2_with fail
              go_ret
              exact ⟨rfl, hbel⟩
            by_cases ik : k ≤ ip
            · obtain rfl : bd = 4 := by rw [← hbd]; unfold Way.badOf; simp [ik]
              obtain rfl : r = 4 := Hbad (by decide)
              clear Hbad Hmany Hstep
              go_wp2_with fail
              go_ret
              exact ⟨rfl, hbel⟩
            obtain rfl : bd = 0 := by rw [← hbd]; unfold Way.badOf; simp [i0, ik]
            by_cases g40 : 40 < n
            · obtain rfl : r = 2 := Hmany rfl g40
              clear Hbad Hmany Hstep
              have g40I : (40 : Int) < (n : Int) := by omega
              go_wp2_with fail
              go_ret
              exact ⟨rfl, hbel⟩
            · have hst := Lib.hid (Hstep.out rfl (by omega))
              have g40I : ¬ (40 : Int) < (n : Int) := by omega
              clear Hbad Hmany Hstep
              go_wp2_with fail
              go_roundw
              case rel => exact ⟨L, A2, cp2, n + 1, rfl, by go_num, hst.out⟩
              case measure => simp [intOf]; omega
          · obtain rfl : bd = 6 := by rw [← hbd]; unfold Way.badOf; simp
            obtain rfl : r = 6 := Hbad (by decide)
            clear Hbad Hmany Hstep
            go_wp2_with fail
            go_ret
            exact ⟨rfl, hbel⟩
        have kn1 : ¬ kd = 1 := e1
        have k23 : kd = 2 ∨ kd = 3 := by omega
        have k1 : 1 < kd := by omega
        rcases m with _ | m
        · obtain rfl : bd = 6 := by rw [← hbd]; unfold Way.badOf; rw [if_neg kn1, if_pos k23]; simp
          obtain rfl : r = 6 := Hbad (by decide)
          clear Hbad Hmany Hstep
          go_wp2_with fail
          go_ret
          exact ⟨rfl, hbel⟩
        by_cases i0 : ip = 0
        · subst i0
          cases ng
          · obtain rfl : bd = 0 := by rw [← hbd]; unfold Way.badOf; rw [if_neg kn1, if_pos k23]; simp
            by_cases g40 : 40 < n
            · obtain rfl : r = 2 := Hmany rfl g40
              clear Hbad Hmany Hstep
              have g40I : (40 : Int) < (n : Int) := by omega
              go_wp2_with fail
              go_ret
              exact ⟨rfl, hbel⟩
            · have hst := Lib.hid (Hstep.out rfl (by omega))
              have g40I : ¬ (40 : Int) < (n : Int) := by omega
              clear Hbad Hmany Hstep
              go_wp2_with fail
              go_roundw
              case rel => exact ⟨L, A2, cp2, n + 1, rfl, by go_num, hst.out⟩
              case measure => simp [intOf]; omega
          · obtain rfl : bd = 6 := by rw [← hbd]; unfold Way.badOf; rw [if_neg kn1, if_pos k23]; simp
            obtain rfl : r = 6 := Hbad (by decide)
            clear Hbad Hmany Hstep
            go_wp2_with fail
            go_ret
            exact ⟨rfl, hbel⟩
        · obtain rfl : bd = 6 := by rw [← hbd]; unfold Way.badOf; rw [if_neg kn1, if_pos k23]; simp [i0]
          obtain rfl : r = 6 := Hbad (by decide)
          clear Hbad Hmany Hstep
          go_wp2_with fail
          go_ret
          exact ⟨rfl, hbel⟩
end Go.Proofs.Ytbjadcanfngijaa
