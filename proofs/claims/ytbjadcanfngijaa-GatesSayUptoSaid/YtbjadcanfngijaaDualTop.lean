/- gates.dual and gates.Dual walked, at every well-formed expression. -/
import Derived.Test.YtbjadcanfngijaaDualWalk
import Derived.Test.YtbjadcanfngijaaCheckTop
namespace Go.Proofs.Ytbjadcanfngijaa
open Go.RowKit

theorem set4_below {w wr : World} {b : Nat} (hb : Below w.heap.size w wr) (h : w.heap.size ≤ b) (v0 v1 v2 v3 : Value) :
    Below w.heap.size w ((((wr.setCell ⟨b, 0, none⟩ v0).setCell ⟨b, 1, none⟩ v1).setCell ⟨b, 2, none⟩ v2).setCell ⟨b, 3, none⟩ v3) :=
  (((hb.setCell h _).setCell h _).setCell h _).setCell h _

set_option maxHeartbeats 400000 in
theorem dual_switch (i : Int) (ng : Bool) (adr : Option Addr) (cp : Nat) (w : World) (c0 : WT) (hr : Hid (c0.strip.dual = .mk 1 i (!ng) [])) :
    Calls Try.prog 21 #[.agg #[.int .i64 1, .int .i64 i, .bool ng, .slice adr 0 cp]] w (DualPost c0 w) := by
  go_enter Try.func21, Try.ntmps21
  go_wp2_with fail
  refine wp_loop_rounds 1 ?_
  rw [rounds_succ]
  go_wp2_with fail
  refine bodyPost_ret (v := .agg #[.int .i64 1, .int .i64 i, .bool (!ng), .slice none 0 0]) (by simp [results, Try.results21, go_sem]) rfl ?_
  refine ⟨⟨1, i, !ng, none, 0, []⟩, rfl, by rw [hr.out]; rfl, .mk _ (fun h => by simp at h) (fun c hc => by cases hc), ?_⟩
  exact (((Below.refl _ _).alloc (Nat.le_refl _) _).alloc (by simp) _).alloc (by simp; omega) _

theorem dual_any {k : Int} : ∀ c : WT, c.Small → c.strip.Good k → c.strip.pre.length ≤ 40 → DualOk c := by
  refine WT.ind ?_
  rintro ⟨kd, i, ng, adr, cp, args⟩ ih hsm hg hlen w B hB hin
  have hstrip := WT.strip_eq ⟨kd, i, ng, adr, cp, args⟩
  simp only at hstrip
  have hl40 : args.length ≤ 40 := by
    have := Way.args_len (WT.strip ⟨kd, i, ng, adr, cp, args⟩)
    rw [hstrip] at this hlen
    simp only [Way.args, List.length_map] at this
    omega
  have hg' := hg
  rw [hstrip] at hg'
  rcases hg'.inv with ⟨hk1, _, _, ha⟩ | ⟨hk1, h0, hn0, _, hgood⟩
  · simp only [Way.kind, Way.args] at hk1 ha
    subst hk1
    have he : args = [] := by simpa using ha
    subst he
    refine dual_switch i ng adr cp w _ (Lib.hid ?_)
    rw [hstrip]
    simp [Way.dual, Way.duals]
  · simp only [Way.kind, Way.inp, Way.neg, Way.args] at hk1 h0 hn0 hgood
    have hkid : ∀ c ∈ args, DualOk c := fun c hc => ih c hc (hsm.kid hc) (hgood _ (List.mem_map_of_mem hc)) (by
      have hm : c.strip ∈ (WT.strip ⟨kd, i, ng, adr, cp, args⟩).args := by rw [hstrip]; exact List.mem_map_of_mem hc
      have := Way.kid_len hm
      omega)
    rcases hk1 with rfl | rfl
    · exact dual_series i ng adr cp args w B hB (Lib.hid hin) hl40 (Lib.hid hkid) _ (Lib.hid (by rw [hstrip]; simp [Way.dual]))
    · exact dual_parallel i ng adr cp args w B hB (Lib.hid hin) hl40 (Lib.hid hkid) _ (Lib.hid (by rw [hstrip]; simp [Way.dual]))

def DualTopPost (c : WT) (w : World) (e : Ending) (w' : World) : Prop :=
  ∃ d : WT, e = .returned (.tuple #[.agg #[.int .i64 d.kind, .int .i64 d.inp, .bool d.neg, .slice d.adr d.args.length d.cap], .int .i64 0]) ∧ d.strip = Way.dual c.strip ∧ d.Lies w' (Fresh w w') ∧ Below w.heap.size w w'

theorem results_Dual {tmps : Array Value} {W : World} {b : Nat} {v0 v1 v2 v3 u : Value} (ht : tmps[4]?.getD undef = .pointer (some ⟨b, 0, none⟩)) (hu : tmps[5]?.getD undef = u) (h : W.heap[b]? = some (.cells #[v0, v1, v2, v3] 29 (0, 0))) :
    (results Try.f10 tmps).run Try.prog W = .ok (.tuple #[.agg #[v0, v1, v2, v3], u]) W := by
  have c0 : W.cell? ⟨b, 0, none⟩ = some v0 := cell_at h
  have c1 : W.cell? ⟨b, 1, none⟩ = some v1 := cell_at h
  have c2 : W.cell? ⟨b, 2, none⟩ = some v2 := cell_at h
  have c3 : W.cell? ⟨b, 3, none⟩ = some v3 := cell_at h
  simp only [results, Try.results10]
  simp [go_sem, ht, hu, c0, c1, c2, c3]

set_option maxHeartbeats 400000 in
theorem dual_top (c : WT) (hs : c.Small) (k : Int) (w : World) (B : Nat) (hB : B ≤ w.heap.size) (hin : Hid (c.In w B)) (h0 : Hid (Way.chk k c.strip = 0)) :
    Calls Try.prog 10 #[c.agg, .int .i64 k] w (DualTopPost c w) := by
  have hck := Lib.hid (check_top k c hs)
  have hg := Way.chk_good h0.out
  have hdu := Lib.hid (dual_any (k := k) c hs hg.2.2.1 hg.2.2.2)
  clear hg
  unfold WT.agg
  go_enter Try.func10, Try.ntmps10
  go_wp2_with fail
  refine (hck.out _ B ?_ ?_).mono ?_
  · simp; omega
  · exact Lib.hid ((hin.out.alloc hB _).alloc (by simp; omega) _)
  rw [h0.out]
  rintro e w1 ⟨rfl, hb1⟩
  have hbw : Below w.heap.size w w1 := (((Below.refl _ _).alloc (Nat.le_refl _) _).alloc (by simp) _).trans (hb1.mono (by simp; omega))
  have hsz : w.heap.size + 2 ≤ w1.heap.size := by have := hb1.size; simpa using this
  obtain ⟨hc, hf⟩ := old_of hb1
  have hblk := hb1.block (w.heap.size + 1) (by simp)
  have e2 := heap_alloc_new (w.alloc (.cells #[.int .i64 c.kind, .int .i64 c.inp, .bool c.neg, .slice c.adr c.args.length c.cap] 29)) (.cells #[.int .i64 0, .int .i64 0, .bool false, .slice none 0 0] 29)
  simp only [World.size_alloc] at hc hf e2
  have Hblk := Lib.hid (hblk.trans e2)
  clear hblk e2
  go_wp2_with fail
  refine (hdu.out _ B (by omega) (hin.out.below_ (hbw.mono hB))).mono ?_
  rintro e w2 ⟨d, rfl, hd1, hd2, hb2⟩
  have hblk2 := (hb2.block (w.heap.size + 1) (by omega)).trans Hblk.out
  have r0 : w2.cell? ⟨w.heap.size + 1, 0, none⟩ = some (.int .i64 0) := cell_at hblk2
  have r1 : w2.cell? ⟨w.heap.size + 1, 1, none⟩ = some (.int .i64 0) := cell_at hblk2
  have r2 : w2.cell? ⟨w.heap.size + 1, 2, none⟩ = some (.bool false) := cell_at hblk2
  have r3 : w2.cell? ⟨w.heap.size + 1, 3, none⟩ = some (.slice none 0 0) := cell_at hblk2
  have rf : ∀ q, w2.frozen? ⟨w.heap.size + 1, q, none⟩ = false := fun q => frozen_at hblk2
  have Hblk2 := Lib.hid hblk2
  clear hblk2 hc hf
  go_wp2_with fail
  refine bodyPost_ret (v := .tuple #[.agg #[.int .i64 d.kind, .int .i64 d.inp, .bool d.neg, .slice d.adr d.args.length d.cap], .int .i64 0]) (results_Dual rfl rfl (four Hblk2.out _ _ _ _)) rfl ?_
  have hbl : Below w.heap.size w w2 := hbw.trans (hb2.mono (by omega))
  refine ⟨d, rfl, hd1, (hd2.keep fun b o hb => ?_).mono fun b hb => ⟨?_, by simpa [World.setCell] using hb.2⟩, set4_below hbl (by omega) _ _ _ _⟩
  · have hne : b ≠ w.heap.size + 1 := by have := hb.1; omega
    refine World.cell?_of_block (w := w2) (a := ⟨b, o, none⟩) ?_
    rw [Below.heap_setCell _ _ _ _ hne, Below.heap_setCell _ _ _ _ hne, Below.heap_setCell _ _ _ _ hne, Below.heap_setCell _ _ _ _ hne]
  · have := hb.1; omega

set_option maxHeartbeats 400000 in
theorem dual_bad (c : WT) (hs : c.Small) (k : Int) (w : World) (B : Nat) (hB : B ≤ w.heap.size) (hin : Hid (c.In w B)) (h0 : Hid (¬ Way.chk k c.strip = 0)) :
    Calls Try.prog 10 #[c.agg, .int .i64 k] w fun e w' => e = .returned (.tuple #[.agg #[.int .i64 0, .int .i64 0, .bool false, .slice none 0 0], .int .i64 (Way.chk k c.strip)]) ∧ Below w.heap.size w w' := by
  have hck := Lib.hid (check_top k c hs)
  obtain ⟨q, hq⟩ : ∃ q, q = Way.chk k c.strip := ⟨_, rfl⟩
  rw [← hq]
  have Hq := Lib.hid hq
  clear hq
  have t : (q != 0) = true := by have := h0.out; rw [← Hq.out] at this; simpa using this
  unfold WT.agg
  go_enter Try.func10, Try.ntmps10
  go_wp2_with fail
  refine (hck.out _ B ?_ ?_).mono ?_
  · simp; omega
  · exact Lib.hid ((hin.out.alloc hB _).alloc (by simp; omega) _)
  rw [← Hq.out]
  rintro e w1 ⟨rfl, hb1⟩
  have hbw : Below w.heap.size w w1 := (((Below.refl _ _).alloc (Nat.le_refl _) _).alloc (by simp) _).trans (hb1.mono (by simp; omega))
  have hblk := hb1.block (w.heap.size + 1) (by simp)
  have e2 := heap_alloc_new (w.alloc (.cells #[.int .i64 c.kind, .int .i64 c.inp, .bool c.neg, .slice c.adr c.args.length c.cap] 29)) (.cells #[.int .i64 0, .int .i64 0, .bool false, .slice none 0 0] 29)
  simp only [World.size_alloc] at e2
  have hblk2 := hblk.trans e2
  have r0 : w1.cell? ⟨w.heap.size + 1, 0, none⟩ = some (.int .i64 0) := cell_at hblk2
  have r1 : w1.cell? ⟨w.heap.size + 1, 1, none⟩ = some (.int .i64 0) := cell_at hblk2
  have r2 : w1.cell? ⟨w.heap.size + 1, 2, none⟩ = some (.bool false) := cell_at hblk2
  have r3 : w1.cell? ⟨w.heap.size + 1, 3, none⟩ = some (.slice none 0 0) := cell_at hblk2
  have rf : ∀ q, w1.frozen? ⟨w.heap.size + 1, q, none⟩ = false := fun q => frozen_at hblk2
  have Hblk2 := Lib.hid hblk2
  clear hblk2 hblk e2
  go_wp2_with fail
  exact bodyPost_ret (v := .tuple #[.agg #[.int .i64 0, .int .i64 0, .bool false, .slice none 0 0], .int .i64 q]) (results_Dual rfl rfl (four Hblk2.out _ _ _ _)) rfl ⟨rfl, set4_below hbw (by omega) _ _ _ _⟩
end Go.Proofs.Ytbjadcanfngijaa
