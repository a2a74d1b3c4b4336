/- voltaiclaw.GatesKleene walked where the expression and its inputs are taken. -/
import Derived.Test.YtbjadcanfngijaaKleeneBad
import Derived.Test.YtbjadcanfngijaaKleeneRows
import Derived.Test.YtbjadcanfngijaaOnce
namespace Go.Proofs.Ytbjadcanfngijaa
open Go.RowKit

theorem closed_good {xs : List Int} {t : Way} (h : Way.chk xs.length t = 0) (ho : ¬ xs.any Way.odd = true) : Way.closed xs t = (Way.val xs t, 0) := by unfold Way.closed; rw [if_neg (by simpa using h), if_neg ho]
theorem closed_odd {xs : List Int} {t : Way} (h : Way.chk xs.length t = 0) (ho : xs.any Way.odd = true) : Way.closed xs t = (0, 5) := by unfold Way.closed; rw [if_neg (by simpa using h), if_pos ho]
theorem table_of_good {m : Nat} {t : Way} {T : Nat} (h : Way.chk m t = 0) (hT : T = Way.tab m t) : Way.table m t = ((T : Int), 0) := by unfold Way.table; rw [if_neg (by simpa using h), Int.toNat_natCast, hT]

theorem small_of_len : ∀ d : WT, d.strip.pre.length ≤ 40 → d.Small := by
  refine WT.ind ?_
  intro d ih h
  have hst := WT.strip_eq d
  have hlen : d.args.length ≤ 40 := by
    have := Way.args_len d.strip
    rw [hst] at this h
    simp only [Way.args, List.length_map] at this
    omega
  refine .mk d (by omega) fun c hc => ih c hc ?_
  have hm : c.strip ∈ d.strip.args := by rw [hst]; exact List.mem_map_of_mem hc
  have := Way.kid_len hm
  omega

/-- what stands behind the two tests: the dual in its box, all that was there as it was. -/
structure TailRel (w w4 wc : World) (d : WT) : Prop where
  below : Below w.heap.size w wc
  box : wc.heap[w4.heap.size]? = some (.cells #[.int .i64 d.kind, .int .i64 d.inp, .bool d.neg, .slice d.adr d.args.length d.cap] 29 (0, 0))
  lies : d.In wc w4.heap.size
  size : w4.heap.size < wc.heap.size

theorem TailRel.start {w w4 : World} {d : WT} (hb : Below w.heap.size w w4) (hd : d.In w4 w4.heap.size) : TailRel w w4 (w4.alloc (.cells #[.int .i64 d.kind, .int .i64 d.inp, .bool d.neg, .slice d.adr d.args.length d.cap] 29)) d :=
  ⟨hb.alloc hb.size _, heap_alloc_new _ _, hd.alloc (Nat.le_refl _) _, by simp⟩
theorem TailRel.alloc {w w4 wc : World} {d : WT} (h : TailRel w w4 wc d) (o : Obj) : TailRel w w4 (wc.alloc o) d :=
  ⟨h.below.alloc h.below.size o, (Below.heap_alloc wc o _ h.size).trans h.box, h.lies.alloc (Nat.le_of_lt h.size) o, by have := h.size; simp; omega⟩
theorem TailRel.seen {w w4 wc w5 : World} {d : WT} {b m : Nat} {s : List Int} (h : TailRel w w4 wc d) (hp : SeenPost b m s wc w5) (hb : w4.heap.size < b) (hw : w.heap.size ≤ w4.heap.size) : TailRel w w4 w5 d := by
  have hg := hp.rest
  refine ⟨h.below.grown hg h.below.size (fun k hk => by injection hk; omega), ?_, h.lies.keep fun b' o hlt => World.cell?_of_block (w := wc) (hg.block b' (by have := h.size; omega) (by simp; omega)), Nat.lt_of_lt_of_le h.size hg.size⟩
  rw [hg.block _ h.size (by simp; omega)]
  exact h.box

theorem all_few {n : Nat} (h : n ≤ 5) : IntKind.u64.wrap (IntKind.u64.wrap (2 ^ min (IntKind.u64.wrap (2 ^ n)).toNat 64) - 1) = ((2 ^ 2 ^ n - 1 : Nat) : Int) := by
  rcases (show n = 0 ∨ n = 1 ∨ n = 2 ∨ n = 3 ∨ n = 4 ∨ n = 5 by omega) with rfl | rfl | rfl | rfl | rfl | rfl <;> decide
theorem fin_few {n T U : Nat} (h6 : n ≤ 6) (hn : ((n : Int) == 6) = false) (hU : U = 2 ^ 2 ^ n - 1 &&& 18446744073709551615 - T) (hT : T < 18446744073709551616) :
    Ending.returned (.bool ((U : Int) == bits BinOp.andNot IntKind.u64 (IntKind.u64.wrap (IntKind.u64.wrap (2 ^ min (IntKind.u64.wrap (2 ^ n)).toNat 64) - 1)) (T : Int))) = .returned (.bool true) := by
  have h5 : n ≤ 5 := by
    have : ¬ (n : Int) = 6 := by simpa using hn
    omega
  have hlt : 2 ^ 2 ^ n ≤ 2 ^ 64 := Nat.pow_le_pow_right (by omega) (Nat.pow_le_pow_right (n := 2) (by omega) (show n ≤ 6 by omega))
  have hpos : 0 < 2 ^ 2 ^ n := Nat.pow_pos (by omega)
  rw [all_few h5, u64_andNot_nat _ _ (by omega) hT, ← hU]
  simp
theorem fin_six {n T U : Nat} (hn : ((n : Int) == 6) = true) (hU : U = 2 ^ 2 ^ n - 1 &&& 18446744073709551615 - T) (hT : T < 18446744073709551616) :
    Ending.returned (.bool ((U : Int) == bits BinOp.andNot IntKind.u64 18446744073709551615 (T : Int))) = .returned (.bool true) := by
  have h6 : n = 6 := by
    have : (n : Int) = 6 := by simpa using hn
    omega
  subst h6
  have := u64_andNot_nat 18446744073709551615 T (by omega) hT
  rw [show (18446744073709551615 : Int) = ((18446744073709551615 : Nat) : Int) from rfl, this, hU]
  simp
theorem seen_made {w : World} {m : Nat} (h : w.heap.size = m) : Seen (w.alloc (.map #[] 0)) m 0 [] := by subst h; exact Seen.made w
theorem row_zero {x : List Int} {T r n : Nat} {fb z u b tb : Bool} (h : fb = Way.fitTo x r n ∧ z = Way.zeroTo x T r ∧ u = Way.oneTo x T r) (hn : n = x.length) (ht : tb = T.testBit r) (hb : b = (z || (fb && !tb))) : Value.bool b = Value.bool (Way.zeroTo x T (r + 1)) := by
  rw [hb, h.1, h.2.1, ht, hn, Way.zeroTo]
theorem row_one {x : List Int} {T r n : Nat} {fb z u b tb : Bool} (h : fb = Way.fitTo x r n ∧ z = Way.zeroTo x T r ∧ u = Way.oneTo x T r) (hn : n = x.length) (ht : tb = T.testBit r) (hb : b = (u || (fb && tb))) : Value.bool b = Value.bool (Way.oneTo x T (r + 1)) := by
  rw [hb, h.1, h.2.2, ht, hn, Way.oneTo]

theorem fit_step {x : List Int} {r j : Nat} {y : Int} {fb b : Bool} (hf : fb = Way.fitTo x r j) (hy : y = x.getD j 0) (h : b = (fb && (decide (y = 2) || decide (y = Way.bitI r j)))) : Value.bool b = Value.bool (Way.fitTo x r (j + 1)) := by
  rw [h, hf, hy, Way.fitTo]

set_option maxRecDepth 100000 in
set_option maxHeartbeats 1600000 in
theorem kleene_good (c : WT) (hs : c.Small) (xs : List Int) (A : Option Addr) (cx : Nat) (w : World) (B : Nat) (hB : B ≤ w.heap.size) (hin : Hid (c.In w B)) (hx : Hid (IntsAt w B A xs)) (n : Nat) (hn : Hid (n = xs.length)) (hn6 : n ≤ 6)
    (h0 : Hid (Way.chk xs.length c.strip = 0)) (ho : Hid (¬ xs.any Way.odd = true)) (v : Int) (hv : Hid (v = Way.val xs c.strip)) (T : Nat) (hT : Hid (T = Way.tab n c.strip)) (hTb : Hid (T < 18446744073709551616))
    (N : Nat) (hN : Hid (N = 2 ^ n)) (hNb : N ≤ 64) (hsh : wrap64 ((2 : Int) ^ n) = N) :
    Calls Try.prog 4 #[c.agg, .slice A n cx] w fun e w' => e = .returned (.bool true) ∧ Below w.heap.size w w' := by
  unfold WT.agg
  go_enter Try.func4, Try.ntmps4
  go_wp2_with fail
  refine (closes_any _).mono ?_
  rintro e w1 ⟨rfl, hb1⟩
  have b1 : Below (w.heap.size + 1) (w.alloc (.cells #[.int .i64 c.kind, .int .i64 c.inp, .bool c.neg, .slice c.adr c.args.length c.cap] 29)) w1 := hb1.mono (by simp)
  have bl1 : Below w.heap.size w w1 := ((Below.refl _ _).alloc (Nat.le_refl _) _).trans (b1.mono (by omega))
  have hs1 := b1.size
  simp only [World.size_alloc] at hs1
  obtain ⟨x0, x1, x2, x3⟩ := boxed b1
  go_wp2_with fail
  have hcl := closed_any c hs xs A cx w1 B (by omega) (Lib.hid (hin.out.below_ (bl1.mono hB))) (Lib.hid (hx.out.below (bl1.mono hB))) (by rw [← hn.out]; omega)
  rw [closed_good h0.out ho.out, ← hn.out, ← hv.out] at hcl
  refine hcl.mono ?_
  clear hcl
  rintro e w2 ⟨rfl, hb2⟩
  have b2 := b1.trans (hb2.mono hs1)
  have bl2 : Below w.heap.size w w2 := bl1.trans (hb2.mono (by omega))
  have hs2 := b2.size
  simp only [World.size_alloc] at hs2
  clear x0 x1 x2 x3
  obtain ⟨x0, x1, x2, x3⟩ := boxed b2
  go_wp2_with fail
  have hta := table_any c hs n w2 B (by omega) (Lib.hid (hin.out.below_ (bl2.mono hB)))
  rw [table_of_good (by rw [hn.out]; exact h0.out) hT.out] at hta
  refine hta.mono ?_
  clear hta
  rintro e w3 ⟨rfl, hb3⟩
  have b3 := b2.trans (hb3.mono hs2)
  have bl3 : Below w.heap.size w w3 := bl2.trans (hb3.mono (by omega))
  have hs3 := b3.size
  simp only [World.size_alloc] at hs3
  clear x0 x1 x2 x3
  obtain ⟨x0, x1, x2, x3⟩ := boxed b3
  go_wp2_with fail
  refine (dual_top c hs n w3 B (by omega) (Lib.hid (hin.out.below_ (bl3.mono hB))) (Lib.hid (by rw [hn.out]; exact h0.out))).mono ?_
  rintro e w4 ⟨d, rfl, hd1, hd2, hb4⟩
  have b4 := b3.trans (hb4.mono hs3)
  have bl4 : Below w.heap.size w w4 := bl3.trans (hb4.mono (by omega))
  have hs4 := b4.size
  simp only [World.size_alloc] at hs4
  have hdin := Lib.hid (hd2.in_ (B := w4.heap.size) (fun b hb => hb.2))
  have hbx := Lib.hid (hx.out.below (bl4.mono hB))
  clear x0 x1 x2 x3 b1 b2 b3 hb1 hb2 hb3 hb4 bl1 bl2 bl3 hd2
  go_wp2_with fail
  rw [hsh]
  clear hsh
  go_loop [57, 11, 12] (fun i z o => ∃ r : Nat, r ≤ N ∧ i = .int .i64 r ∧ z = .bool (Way.zeroTo xs T r) ∧ o = .bool (Way.oneTo xs T r)) (fun i _ _ => N - (intOf i).toNat)
  case atStart => exact ⟨0, by omega, rfl, rfl, rfl⟩
  case round =>
    obtain ⟨r, hr, rfl, rfl, rfl⟩ := hrel
    by_cases hlt : r < N
    · have hrI : (r : Int) < N := by omega
      have hr64 : (r : Int) < 64 := by omega
      go_wp2_with fail
      go_loop [62, 14] (fun i f => ∃ j : Nat, j ≤ n ∧ i = .int .i64 j ∧ f = .bool (Way.fitTo xs r j)) (fun i _ => n - (intOf i).toNat)
      case atStart => exact ⟨0, by omega, rfl, rfl⟩
      case round =>
        obtain ⟨j, hj, rfl, rfl⟩ := hrel
        by_cases hjk : j < n
        · have hjI : (j : Int) < n := by omega
          obtain ⟨b, o, had, _, hcell⟩ := hbx.out (by rw [← hn.out]; omega)
          have hcj := (World.cell?_alloc_lt w4 (.cells #[.int .i64 d.kind, .int .i64 d.inp, .bool d.neg, .slice d.adr d.args.length d.cap] 29) ⟨b, o + j, none⟩ (by show b < _; omega)).trans (hcell j (by rw [← hn.out]; exact hjk))
          clear hcell
          obtain ⟨y, hy⟩ : ∃ y, y = xs.getD j 0 := ⟨_, rfl⟩
          rw [← hy] at hcj
          have Hy := Lib.hid hy
          clear hy
          subst had
          obtain ⟨fb, hfb⟩ : ∃ fb, fb = Way.fitTo xs r j := ⟨_, rfl⟩
          rw [← hfb]
          have Hfb := Lib.hid hfb
          clear hfb
          have hbit := row_bit r j
          cases fb
          · go_wp2_with fail
            go_round
            case rel => exact ⟨j + 1, by omega, by go_num, fit_step Hfb.out Hy.out (by simp)⟩
            case measure => simp [intOf]; omega
          · by_cases hy2 : y = 2
            · have t : (y == 2) = true := by simpa using hy2
              have Hy2 := Lib.hid hy2
              clear hy2
              go_wp2_with fail
              go_round
              case rel => exact ⟨j + 1, by omega, by go_num, fit_step Hfb.out Hy.out (by simp [Hy2.out])⟩
              case measure => simp [intOf]; omega
            · have t : (y == 2) = false := by simpa using hy2
              have Hy2 := Lib.hid hy2
              clear hy2
              by_cases hyb : y = Way.bitI r j
              · have t2 : (y == Way.bitI r j) = true := by simpa using hyb
                have Hyb := Lib.hid hyb
                clear hyb
                go_wp2_with fail
                go_round
                case rel => exact ⟨j + 1, by omega, by go_num, fit_step Hfb.out Hy.out (by rw [← Hyb.out]; simp)⟩
                case measure => simp [intOf]; omega
              · have t2 : (y == Way.bitI r j) = false := by simpa using hyb
                have Hyb := Lib.hid hyb
                clear hyb
                go_wp2_with fail
                go_round
                case rel => exact ⟨j + 1, by omega, by go_num, fit_step Hfb.out Hy.out (by simp [Hy2.out, Hyb.out])⟩
                case measure => simp [intOf]; omega
        · obtain ⟨fb, hfb⟩ : ∃ fb, fb = Way.fitTo xs r n := ⟨_, rfl⟩
          obtain ⟨z, hz⟩ : ∃ z, z = Way.zeroTo xs T r := ⟨_, rfl⟩
          obtain ⟨u, hu⟩ : ∃ u, u = Way.oneTo xs T r := ⟨_, rfl⟩
          have hjn : j = n := by omega
          subst hjn
          rw [← hfb, ← hz, ← hu]
          have Hfin := Lib.hid (And.intro hfb (And.intro hz hu))
          clear hfb hz hu
          have htb := tab_and (r := r) hTb.out
          obtain ⟨tb, htbe⟩ : ∃ tb, tb = T.testBit r := ⟨_, rfl⟩
          have t1 : (Way.bitI T r == 1) = tb := by rw [htbe]; unfold Way.bitI; cases T.testBit r <;> rfl
          have t0 : (Way.bitI T r == 0) = !tb := by rw [htbe]; unfold Way.bitI; cases T.testBit r <;> rfl
          have Htb := Lib.hid htbe
          clear htbe
          cases fb <;> cases tb <;> simp only [Bool.not_true, Bool.not_false] at t0
          all_goals
            go_wp2_with fail
            go_round
            case rel => exact ⟨r + 1, by omega, by go_num, row_zero Hfin.out hn.out Htb.out (by simp), row_one Hfin.out hn.out Htb.out (by simp)⟩
            case measure => simp [intOf]; omega
    · have hrN : r = N := by omega
      subst hrN
      have hgood := (Way.chk_good h0.out).2.2.1
      have hlen := (Way.chk_good h0.out).2.2.2
      have honce := Lib.hid (once_any n hn6 c hs (by rw [hn.out]; exact hgood))
      have hlenH := Lib.hid hlen
      have hdlen : d.strip.pre.length ≤ 40 := by rw [hd1, Way.pre_dual]; exact hlen
      have hdchk : Way.chk n d.strip = 0 := by rw [hd1, hn.out]; exact Way.chk_dual h0.out
      have htd := Lib.hid (table_any d (small_of_len d hdlen) n)
      obtain ⟨U, hU⟩ : ∃ U, U = Way.tab n d.strip := ⟨_, rfl⟩
      have htv := Lib.hid (table_of_good hdchk hU)
      have hUT := Lib.hid (hU.trans (by rw [hd1, hn.out, Way.tab_dual (by rw [← hn.out]; exact hn6) hgood, ← hn.out, ← hT.out]))
      obtain ⟨Z, hZ⟩ : ∃ Z, Z = Way.zeroTo xs T r := ⟨_, rfl⟩
      obtain ⟨O, hO⟩ : ∃ O, O = Way.oneTo xs T r := ⟨_, rfl⟩
      have htri := Way.val_tri (x := xs) (Way.tri_of ho.out) hgood
      have hk0 : v = 0 → O = false := fun e => by rw [hO, hN.out, hT.out, hn.out]; exact Way.known_zero hgood (by rw [← hv.out]; exact e)
      have hk1 : v = 1 → Z = false := fun e => by rw [hZ, hN.out, hT.out, hn.out]; exact Way.known_one hgood (by rw [← hv.out]; exact e)
      obtain ⟨ob, hob⟩ : ∃ ob, ob = (Way.one c.strip []).1 := ⟨_, rfl⟩
      have hk2 : ob = true → v = 2 → Z = true ∧ O = true := fun e1 e2 => by rw [hZ, hO, hN.out, hT.out, hn.out]; exact Way.either (Way.tri_of ho.out) hgood (by rw [← hob]; exact e1) (by rw [← hv.out]; exact e2)
      rw [← hv.out] at htri
      rw [← hZ, ← hO]
      have hT5 := TailRel.start (w := w) bl4 hdin.out
      have b5 := b4.alloc hs4 (.cells #[.int .i64 d.kind, .int .i64 d.inp, .bool d.neg, .slice d.adr d.args.length d.cap] 29)
      obtain ⟨x0, x1, x2, x3⟩ := boxed b5
      have hmm := @run_makeMap Try.prog
      have Hob := Lib.hid hob
      have hw4 : w.heap.size ≤ w4.heap.size := by omega
      clear hZ hO hob hgood hlen hdlen hdchk hU hdin b4 hlt hr
      rcases htri with rfl | rfl | rfl
      · have hO := hk0 rfl
        subst hO
        clear hk0 hk1 hk2
        go_wp2_with fail
        refine (honce.out _ B (w4.heap.size + 1) 0 [] (by omega) ?_ (seen_made (by simp)) (by have := hlenH.out; omega)).mono ?_
        · exact ((hin.out.below_ (bl4.mono hB)).alloc (by omega) _).alloc (by simp; omega) _
        rw [← Hob.out]
        rintro e w5 ⟨rfl, hP⟩
        have hT6 := (hT5.alloc (.map #[] 0)).seen hP (by omega) hw4
        have e0 : w5.cell? ⟨w4.heap.size, 0, none⟩ = some (.int .i64 d.kind) := cell_at hT6.box
        have e1 : w5.cell? ⟨w4.heap.size, 1, none⟩ = some (.int .i64 d.inp) := cell_at hT6.box
        have e2 : w5.cell? ⟨w4.heap.size, 2, none⟩ = some (.bool d.neg) := cell_at hT6.box
        have e3 : w5.cell? ⟨w4.heap.size, 3, none⟩ = some (.slice d.adr d.args.length d.cap) := cell_at hT6.box
        clear hP hT5 hmm b5 x0 x1 x2 x3
        cases ob
        · go_wp2_with fail
          refine (htd.out w5 w4.heap.size (Nat.le_of_lt hT6.size) (Lib.hid hT6.lies)).mono ?_
          rw [htv.out]
          rintro e w6 ⟨rfl, hb6⟩
          have bfin := hT6.below.trans (hb6.mono hT6.below.size)
          clear e0 e1 e2 e3
          go_wp2_with fail
          · go_ret
            exact ⟨fin_six (by assumption) hUT.out hTb.out, bfin⟩
          · go_ret
            exact ⟨fin_few hn6 (by assumption) hUT.out hTb.out, bfin⟩
        · go_wp2_with fail
          refine (htd.out w5 w4.heap.size (Nat.le_of_lt hT6.size) (Lib.hid hT6.lies)).mono ?_
          rw [htv.out]
          rintro e w6 ⟨rfl, hb6⟩
          have bfin := hT6.below.trans (hb6.mono hT6.below.size)
          clear e0 e1 e2 e3
          go_wp2_with fail
          · go_ret
            exact ⟨fin_six (by assumption) hUT.out hTb.out, bfin⟩
          · go_ret
            exact ⟨fin_few hn6 (by assumption) hUT.out hTb.out, bfin⟩
      · have hZ := hk1 rfl
        subst hZ
        clear hk0 hk1 hk2
        go_wp2_with fail
        refine (honce.out _ B (w4.heap.size + 1) 0 [] (by omega) ?_ (seen_made (by simp)) (by have := hlenH.out; omega)).mono ?_
        · exact ((hin.out.below_ (bl4.mono hB)).alloc (by omega) _).alloc (by simp; omega) _
        rw [← Hob.out]
        rintro e w5 ⟨rfl, hP⟩
        have hT6 := (hT5.alloc (.map #[] 0)).seen hP (by omega) hw4
        have e0 : w5.cell? ⟨w4.heap.size, 0, none⟩ = some (.int .i64 d.kind) := cell_at hT6.box
        have e1 : w5.cell? ⟨w4.heap.size, 1, none⟩ = some (.int .i64 d.inp) := cell_at hT6.box
        have e2 : w5.cell? ⟨w4.heap.size, 2, none⟩ = some (.bool d.neg) := cell_at hT6.box
        have e3 : w5.cell? ⟨w4.heap.size, 3, none⟩ = some (.slice d.adr d.args.length d.cap) := cell_at hT6.box
        clear hP hT5 hmm b5 x0 x1 x2 x3
        cases ob
        · go_wp2_with fail
          refine (htd.out w5 w4.heap.size (Nat.le_of_lt hT6.size) (Lib.hid hT6.lies)).mono ?_
          rw [htv.out]
          rintro e w6 ⟨rfl, hb6⟩
          have bfin := hT6.below.trans (hb6.mono hT6.below.size)
          clear e0 e1 e2 e3
          go_wp2_with fail
          · go_ret
            exact ⟨fin_six (by assumption) hUT.out hTb.out, bfin⟩
          · go_ret
            exact ⟨fin_few hn6 (by assumption) hUT.out hTb.out, bfin⟩
        · go_wp2_with fail
          refine (htd.out w5 w4.heap.size (Nat.le_of_lt hT6.size) (Lib.hid hT6.lies)).mono ?_
          rw [htv.out]
          rintro e w6 ⟨rfl, hb6⟩
          have bfin := hT6.below.trans (hb6.mono hT6.below.size)
          clear e0 e1 e2 e3
          go_wp2_with fail
          · go_ret
            exact ⟨fin_six (by assumption) hUT.out hTb.out, bfin⟩
          · go_ret
            exact ⟨fin_few hn6 (by assumption) hUT.out hTb.out, bfin⟩
      · have Hk2 := Lib.hid hk2
        clear hk0 hk1 hk2
        go_wp2_with fail
        refine (honce.out _ B (w4.heap.size + 1) 0 [] (by omega) ?_ (seen_made (by simp)) (by have := hlenH.out; omega)).mono ?_
        · exact ((hin.out.below_ (bl4.mono hB)).alloc (by omega) _).alloc (by simp; omega) _
        rw [← Hob.out]
        rintro e w5 ⟨rfl, hP⟩
        have hT6 := (hT5.alloc (.map #[] 0)).seen hP (by omega) hw4
        have e0 : w5.cell? ⟨w4.heap.size, 0, none⟩ = some (.int .i64 d.kind) := cell_at hT6.box
        have e1 : w5.cell? ⟨w4.heap.size, 1, none⟩ = some (.int .i64 d.inp) := cell_at hT6.box
        have e2 : w5.cell? ⟨w4.heap.size, 2, none⟩ = some (.bool d.neg) := cell_at hT6.box
        have e3 : w5.cell? ⟨w4.heap.size, 3, none⟩ = some (.slice d.adr d.args.length d.cap) := cell_at hT6.box
        clear hP hT5 hmm b5 x0 x1 x2 x3
        cases ob
        · go_wp2_with fail
          refine (htd.out w5 w4.heap.size (Nat.le_of_lt hT6.size) (Lib.hid hT6.lies)).mono ?_
          rw [htv.out]
          rintro e w6 ⟨rfl, hb6⟩
          have bfin := hT6.below.trans (hb6.mono hT6.below.size)
          clear e0 e1 e2 e3
          go_wp2_with fail
          · go_ret
            exact ⟨fin_six (by assumption) hUT.out hTb.out, bfin⟩
          · go_ret
            exact ⟨fin_few hn6 (by assumption) hUT.out hTb.out, bfin⟩
        · obtain ⟨hZ, hO⟩ := Hk2.out (by first | trivial | rfl) (by first | trivial | rfl)
          subst hZ hO
          go_wp2_with fail
          refine (htd.out w5 w4.heap.size (Nat.le_of_lt hT6.size) (Lib.hid hT6.lies)).mono ?_
          rw [htv.out]
          rintro e w6 ⟨rfl, hb6⟩
          have bfin := hT6.below.trans (hb6.mono hT6.below.size)
          clear e0 e1 e2 e3
          go_wp2_with fail
          · go_ret
            exact ⟨fin_six (by assumption) hUT.out hTb.out, bfin⟩
          · go_ret
            exact ⟨fin_few hn6 (by assumption) hUT.out hTb.out, bfin⟩
end Go.Proofs.Ytbjadcanfngijaa
