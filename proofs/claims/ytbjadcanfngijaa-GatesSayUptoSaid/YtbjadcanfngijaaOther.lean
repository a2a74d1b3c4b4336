/- voltaiclaw.other walked: at a well-formed expression it answers the dual, in new memory. -/
import Derived.Test.YtbjadcanfngijaaDual2
import Derived.Test.YtbjadcanfngijaaPlain4
namespace Go.Proofs.Ytbjadcanfngijaa
open Go.RowKit

structure OtherRel (w wr : World) (k2 i2 : Int) (n2 : Bool) (v3 : Value) (ds : List WT) (adr : Option Addr) (cap : Nat) : Prop where
  below : Below w.heap.size w wr
  size : w.heap.size + 3 ≤ wr.heap.size
  box : wr.heap[w.heap.size]? = some (.cells #[.int .i64 k2, .int .i64 i2, .bool n2, v3] 29 (0, 0))
  res : wr.heap[w.heap.size + 1]? = some (.cells #[.int .i64 0, .int .i64 0, .bool false, .slice none 0 0] 29 (0, 0))
  own : wr.ownsRow (w.heap.size + 3) 29 4 (.slice adr ds.length cap) ds.length (ds.flatMap WT.cells)
  kids : ∀ d ∈ ds, d.Lies wr fun b => w.heap.size + 3 ≤ b ∧ b < wr.heap.size ∧ (Value.slice adr ds.length cap).ownBlock ≠ some b

theorem other_step {w wr w2 w3 : World} {k2 i2 : Int} {n2 : Bool} {v3 : Value} {ds : List WT} {adr : Option Addr} {cap : Nat} {X Y : Obj} {d : WT} {gg ca : Nat} (h : OtherRel w wr k2 i2 n2 v3 ds adr cap)
    (hb2 : Below (wr.heap.size + 1) (wr.alloc X) w2) (hd : d.Lies w2 fun b => wr.heap.size + 1 ≤ b ∧ b < w2.heap.size)
    (hown : w3.ownsRow (w.heap.size + 3) 29 4 (.slice (some ⟨gg, 0, none⟩) (ds.length + 1) ca) (ds.length + 1) (ds.flatMap WT.cells ++ d.cells))
    (hg : (w2.alloc Y).grownBy w3 (Value.slice adr ds.length cap).ownBlock) (hat : (Value.slice adr ds.length cap).ownBlock = some gg ∨ gg = w2.heap.size + 1) :
    OtherRel w w3 k2 i2 n2 v3 (ds ++ [d]) (some ⟨gg, 0, none⟩) ca := by
  have hsz := h.size
  have hs2 := hb2.size
  have hs3 := hg.size
  simp only [World.size_alloc] at hs2 hs3
  have keep : ∀ b, b < wr.heap.size → some b ≠ (Value.slice adr ds.length cap).ownBlock → w3.heap[b]? = wr.heap[b]? := fun b hb hne => by
    rw [hg.block b (by simp; omega) hne, Below.heap_alloc w2 Y b (by omega), hb2.block b (by omega), Below.heap_alloc wr X b hb]
  have b1 : Below w.heap.size w w3 := by
    refine ⟨?_, ?_, ?_, ?_, fun b hb => ?_⟩
    · rw [hg.os]; show w2.os = _; rw [hb2.os]; exact h.below.os
    · rw [hg.tape]; show w2.tape = _; rw [hb2.tape]; exact h.below.tape
    · rw [hg.output]; show w2.output = _; rw [hb2.output]; exact h.below.output
    · omega
    · rw [keep b (by omega) (own_lo h.own (by omega))]; exact h.below.block b hb
  refine ⟨b1, by omega, (keep _ (by omega) (own_lo h.own (by omega))).trans h.box, (keep _ (by omega) (own_lo h.own (by omega))).trans h.res, ?_, ?_⟩
  · rw [List.flatMap_append, List.length_append]
    simp only [List.flatMap_cons, List.flatMap_nil, List.append_nil, List.length_cons, List.length_nil]
    exact hown
  · intro c hc
    rcases List.mem_append.1 hc with hc | hc
    · refine ((h.kids c hc).keep fun b o hb => ?_).mono fun b hb => ?_
      · exact World.cell?_of_block (w := wr) (a := ⟨b, o, none⟩) (keep b hb.2.1 (fun e => hb.2.2 e.symm))
      · refine ⟨hb.1, by omega, ?_⟩
        rcases hat with hat | hat
        · have h2 := hb.2.2
          rw [hat] at h2
          simpa [Value.ownBlock] using h2
        · simp [Value.ownBlock]; omega
    · obtain rfl : c = d := by simpa using hc
      have hov : ∀ b, (Value.slice adr ds.length cap).ownBlock = some b → b < wr.heap.size := fun b hb => (h.own.lt b hb).2
      refine (hd.keep fun b o hb => ?_).mono fun b hb => ?_
      · refine World.cell?_of_block (w := w2) (a := ⟨b, o, none⟩) ?_
        show w3.heap[b]? = _
        rw [hg.block b (by simp; omega) (fun e => by have := hov b e.symm; omega), Below.heap_alloc w2 Y b (by omega)]
      · refine ⟨by omega, by omega, ?_⟩
        rcases hat with hat | hat
        · have := hov gg hat
          simp [Value.ownBlock]; omega
        · simp [Value.ownBlock]; omega

theorem other_lies {w wr : World} {k2 i2 : Int} {n2 : Bool} {v3 : Value} {ds : List WT} {ad : Option Addr} {ca : Nat} (h : OtherRel w wr k2 i2 n2 v3 ds ad ca) :
    WT.Lies wr (fun b => w.heap.size + 3 ≤ b ∧ b < wr.heap.size) ⟨k2, i2, n2, ad, ca, ds⟩ := by
  refine .mk _ (fun h0 => ?_) (fun c hc => (h.kids c hc).mono fun b hb => ⟨hb.1, hb.2.1⟩)
  simp only at h0 ⊢
  obtain ⟨g, cap, hv, hg, hlt⟩ := h.own.form h0
  injection hv with e1 e2 e3
  refine ⟨g, 0, e1, ⟨hg, hlt⟩, fun i hi => ?_⟩
  have hcell : ∀ q, q < 4 → ∀ u, ds[i].cells[q]? = some u → wr.cell? ⟨g, 0 + i * 4 + q, none⟩ = some u := by
    intro q hq u hu
    have := h.own.cells (g := g) (by rw [e1]; rfl) (i * 4 + q) u (by rw [flat_cells ds i q hi hq]; exact hu)
    rw [Nat.zero_add]
    have hadd : (⟨g, 0, none⟩ : Addr).add (i * 4 + q) = ⟨g, i * 4 + q, none⟩ := by unfold Addr.add; split <;> simp_all
    rwa [hadd] at this
  exact ⟨hcell 0 (by omega) _ rfl, hcell 1 (by omega) _ rfl, hcell 2 (by omega) _ rfl, hcell 3 (by omega) _ rfl⟩

theorem results_other {tmps : Array Value} {W : World} {b : Nat} {v0 v1 v2 v3 : Value} (ht : tmps[2]?.getD undef = .pointer (some ⟨b, 0, none⟩)) (h : W.heap[b]? = some (.cells #[v0, v1, v2, v3] 29 (0, 0))) :
    (results Try.f18 tmps).run Try.prog W = .ok (.agg #[v0, v1, v2, v3]) W := by
  have c0 : W.cell? ⟨b, 0, none⟩ = some v0 := cell_at h
  have c1 : W.cell? ⟨b, 1, none⟩ = some v1 := cell_at h
  have c2 : W.cell? ⟨b, 2, none⟩ = some v2 := cell_at h
  have c3 : W.cell? ⟨b, 3, none⟩ = some v3 := cell_at h
  simp only [results, Try.results18]
  simp [go_sem, ht, c0, c1, c2, c3]

theorem other_out {w wr : World} {k2 i2 : Int} {n2 : Bool} {ds : List WT} {ad : Option Addr} {ca : Nat} {c0 : WT} {L : List Way} {v : Value} (hl : WT.Lies wr (fun b => w.heap.size + 3 ≤ b ∧ b < wr.heap.size) ⟨k2, i2, n2, ad, ca, ds⟩) (hb : Below w.heap.size w wr)
    (hr : c0.strip.dual = .mk k2 i2 n2 L) (hd : ds.map WT.strip = L) (v0 v1 v2 v3 : Value) :
    DualPost c0 w (.returned (.agg #[.int .i64 k2, .int .i64 i2, .bool n2, .slice ad ds.length ca]))
      (((((wr.setCell ⟨w.heap.size, 3, none⟩ v).setCell ⟨w.heap.size + 1, 0, none⟩ v0).setCell ⟨w.heap.size + 1, 1, none⟩ v1).setCell ⟨w.heap.size + 1, 2, none⟩ v2).setCell ⟨w.heap.size + 1, 3, none⟩ v3) := by
  refine ⟨⟨k2, i2, n2, ad, ca, ds⟩, rfl, by rw [WT.strip_eq, hr, ← hd], (hl.keep fun b o hb => ?_).mono fun b hb => ⟨by omega, by simpa [World.setCell] using hb.2⟩, ((((hb.setCell (by simp) _).setCell (by simp) _).setCell (by simp) _).setCell (by simp) _).setCell (by simp) _⟩
  have hne : b ≠ w.heap.size + 1 := by omega
  have hne0 : b ≠ w.heap.size := by omega
  refine World.cell?_of_block (w := wr) (a := ⟨b, o, none⟩) ?_
  rw [Below.heap_setCell _ _ _ _ hne, Below.heap_setCell _ _ _ _ hne, Below.heap_setCell _ _ _ _ hne, Below.heap_setCell _ _ _ _ hne, Below.heap_setCell _ _ _ _ hne0]

def OtherOk (c : WT) : Prop := ∀ (w : World) (B : Nat), B ≤ w.heap.size → c.In w B → Calls Try.prog 18 #[c.agg] w (DualPost c w)

theorem other_start (w : World) (k2 i2 : Int) (n2 : Bool) (v3 : Value) (Z : Obj) :
    OtherRel w (((w.alloc (.cells #[.int .i64 k2, .int .i64 i2, .bool n2, v3] 29)).alloc (.cells #[.int .i64 0, .int .i64 0, .bool false, .slice none 0 0] 29)).alloc Z) k2 i2 n2 v3 [] none 0 := by
  have e1 := heap_alloc_new (w.alloc (.cells #[.int .i64 k2, .int .i64 i2, .bool n2, v3] 29)) (.cells #[.int .i64 0, .int .i64 0, .bool false, .slice none 0 0] 29)
  have e0 := heap_alloc_new w (.cells #[.int .i64 k2, .int .i64 i2, .bool n2, v3] 29)
  simp only [World.size_alloc] at e1 e0
  refine ⟨(((Below.refl _ _).alloc (Nat.le_refl _) _).alloc (by simp) _).alloc (by simp; omega) _, by simp, ?_, ?_, ⟨by simp, .inl ⟨rfl, rfl⟩⟩, by simp⟩
  · rw [Below.heap_alloc _ _ _ (by simp; omega), Below.heap_alloc _ _ _ (by simp)]
    exact e0
  · rw [Below.heap_alloc _ _ _ (by simp)]
    exact e1

set_option maxHeartbeats 3200000 in
theorem other_one (i : Int) (ng : Bool) (adr : Option Addr) (cp : Nat) (args : List WT) (w : World) (B : Nat) (hB : B ≤ w.heap.size) (hin : Hid (WT.In w B ⟨1, i, ng, adr, cp, args⟩)) (hlen : args.length ≤ 40)
    (ih : Hid (∀ c ∈ args, OtherOk c)) (c0 : WT) (hr : Hid (c0.strip.dual = .mk 1 i (!ng) (Way.duals (args.map WT.strip)))) :
    Calls Try.prog 18 #[.agg #[.int .i64 1, .int .i64 i, .bool ng, .slice adr args.length cp]] w (DualPost c0 w) := by
  obtain ⟨i0, hi0, hz0, hz1, hz2⟩ := info_parts Try.info29
  go_enter Try.func18, Try.ntmps18
  go_wp2_with fail
  go_loopw [22, 3] (fun s v wr => ∃ (j : Nat) (ds : List WT) (ad : Option Addr) (ca : Nat), j ≤ args.length ∧ s = .int .i64 j ∧ v = .slice ad ds.length ca ∧ Hid (ds.length = j ∧ ds.map WT.strip = Way.duals ((args.take j).map WT.strip)) ∧ OtherRel w wr 1 i (!ng) (.slice adr args.length cp) ds ad ca) (fun s _ _ => args.length - (intOf s).toNat)
  case atStart => exact ⟨0, [], none, 0, by omega, rfl, rfl, ⟨rfl, rfl⟩, other_start _ _ _ _ _ _⟩
  case round =>
    obtain ⟨j, ds, ad, ca, hj, rfl, rfl, hds, hR⟩ := hrel
    have hsz := hR.size
    by_cases hlt : j < args.length
    · obtain ⟨b2, o, had, hbB, c0, c1, c2, c3⟩ := (hin.out.below_ (hR.below.mono hB)).here (i := j) hlt
      simp only at had c0 c1 c2 c3
      have hck := ih.out _ (List.getElem_mem hlt)
      obtain ⟨c, hce⟩ : ∃ c, c = args[j] := ⟨_, rfl⟩
      rw [← hce] at c0 c1 c2 c3 hck
      have hinc := Lib.hid ((hin.out.kid (hce ▸ List.getElem_mem hlt)).below_ (hR.below.mono hB))
      have Hce := Lib.hid hce
      clear hce
      subst had
      have hkI : (j : Int) < (args.length : Int) := by omega
      have hlen2 : ds.length ≤ 40 := by have := hds.out.1; omega
      go_wp2_with fail
      refine (hck _ B ?_ ?_).mono ?_
      · simp; omega
      · exact hinc.out.alloc (by omega) _
      rintro e w2 ⟨d, rfl, hd1, hd2, hb2⟩
      have hb3 : Below (wr.heap.size + 1) (wr.alloc (.cells #[.int .i64 c.kind, .int .i64 c.inp, .bool c.neg, .slice c.adr c.args.length c.cap] 29)) w2 := hb2.mono (by simp)
      have hown2 := own_below (hR.own.alloc _) (hb3.mono (by simp))
      have hd3 := hd2.mono (fun b hb => And.intro (by simpa using hb.1 : wr.heap.size + 1 ≤ b) hb.2)
      have hs2 : wr.heap.size + 1 ≤ w2.heap.size := by have := hb3.size; simpa using this
      clear hb2 hd2 c0 c1 c2 c3
      go_wp2_with (at_builtin; refine wpList_append_lies _ rfl (.tmp 26) (.tmp 29) 27 rfl (w.heap.size + 3) 29 i0 _ 4 48 Try.underlying27 hi0 hz0 hz1 hz2 rfl (by omega) (.slice ad ds.length ca) ds.length (ds.flatMap WT.cells) rfl (hown2.alloc _) ⟨w2.heap.size, 0, none⟩ 1 1 d.cells rfl rfl (World.news_of_block (cs := #[.int .i64 d.kind, .int .i64 d.inp, .bool d.neg, .slice d.adr d.args.length d.cap]) (t := 29) (fr := (0, 0)) (heap_alloc_new w2 _)) (by simp [WT.cells, Value.oneCell']) (by omega) (by unfold maxLen; omega) (by omega) (by simp; omega) (w2.heap.size + 1) (by simp) ?_; intro gg cap w3 hown3 hg3 hat3 hlt3)
      have hnew := other_step hR hb3 hd3 hown3 hg3 hat3
      go_roundw
      case rel => exact ⟨j + 1, ds ++ [d], some ⟨gg, 0, none⟩, cap, by omega, by go_num, by simp, kids_step hds.out hlt Hce.out hd1, hnew⟩
      case measure => simp [intOf]; omega
    · have b0 : wr.cell? ⟨w.heap.size, 0, none⟩ = some (.int .i64 1) := cell_at hR.box
      have b1 : wr.cell? ⟨w.heap.size, 1, none⟩ = some (.int .i64 i) := cell_at hR.box
      have b2 : wr.cell? ⟨w.heap.size, 2, none⟩ = some (.bool (!ng)) := cell_at hR.box
      have b3 : wr.cell? ⟨w.heap.size, 3, none⟩ = some (.slice adr args.length cp) := cell_at hR.box
      have bf : ∀ q, wr.frozen? ⟨w.heap.size, q, none⟩ = false := fun q => frozen_at hR.box
      have r0 : wr.cell? ⟨w.heap.size + 1, 0, none⟩ = some (.int .i64 0) := cell_at hR.res
      have r1 : wr.cell? ⟨w.heap.size + 1, 1, none⟩ = some (.int .i64 0) := cell_at hR.res
      have r2 : wr.cell? ⟨w.heap.size + 1, 2, none⟩ = some (.bool false) := cell_at hR.res
      have r3 : wr.cell? ⟨w.heap.size + 1, 3, none⟩ = some (.slice none 0 0) := cell_at hR.res
      have rf : ∀ q, wr.frozen? ⟨w.heap.size + 1, q, none⟩ = false := fun q => frozen_at hR.res
      have hend := other_lies hR
      have hbel := hR.below
      have hd2 := Lib.hid (kids_done hds.out (show ¬ j < args.length from hlt))
      have hres : ∀ v, (wr.setCell ⟨w.heap.size, 3, none⟩ v).heap[w.heap.size + 1]? = _ := fun v => (Below.heap_setCell _ _ _ _ (by show _ ≠ w.heap.size; omega)).trans hR.res
      clear hds hR hj
      go_wp2_with fail
      exact bodyPost_ret (v := .agg #[.int .i64 1, .int .i64 i, .bool (!ng), .slice ad ds.length ca]) (results_other rfl (four (hres _) _ _ _ _)) rfl (other_out hend hbel hr.out hd2.out _ _ _ _)

set_option maxHeartbeats 3200000 in
theorem other_two (i : Int) (ng : Bool) (adr : Option Addr) (cp : Nat) (args : List WT) (w : World) (B : Nat) (hB : B ≤ w.heap.size) (hin : Hid (WT.In w B ⟨2, i, ng, adr, cp, args⟩)) (hlen : args.length ≤ 40)
    (ih : Hid (∀ c ∈ args, OtherOk c)) (c0 : WT) (hr : Hid (c0.strip.dual = .mk 3 i ng (Way.duals (args.map WT.strip)))) :
    Calls Try.prog 18 #[.agg #[.int .i64 2, .int .i64 i, .bool ng, .slice adr args.length cp]] w (DualPost c0 w) := by
  obtain ⟨i0, hi0, hz0, hz1, hz2⟩ := info_parts Try.info29
  go_enter Try.func18, Try.ntmps18
  go_wp2_with fail
  go_loopw [22, 3] (fun s v wr => ∃ (j : Nat) (ds : List WT) (ad : Option Addr) (ca : Nat), j ≤ args.length ∧ s = .int .i64 j ∧ v = .slice ad ds.length ca ∧ Hid (ds.length = j ∧ ds.map WT.strip = Way.duals ((args.take j).map WT.strip)) ∧ OtherRel w wr 3 i ng (.slice adr args.length cp) ds ad ca) (fun s _ _ => args.length - (intOf s).toNat)
  case atStart => exact ⟨0, [], none, 0, by omega, rfl, rfl, ⟨rfl, rfl⟩, other_start _ _ _ _ _ _⟩
  case round =>
    obtain ⟨j, ds, ad, ca, hj, rfl, rfl, hds, hR⟩ := hrel
    have hsz := hR.size
    by_cases hlt : j < args.length
    · obtain ⟨b2, o, had, hbB, c0, c1, c2, c3⟩ := (hin.out.below_ (hR.below.mono hB)).here (i := j) hlt
      simp only at had c0 c1 c2 c3
      have hck := ih.out _ (List.getElem_mem hlt)
      obtain ⟨c, hce⟩ : ∃ c, c = args[j] := ⟨_, rfl⟩
      rw [← hce] at c0 c1 c2 c3 hck
      have hinc := Lib.hid ((hin.out.kid (hce ▸ List.getElem_mem hlt)).below_ (hR.below.mono hB))
      have Hce := Lib.hid hce
      clear hce
      subst had
      have hkI : (j : Int) < (args.length : Int) := by omega
      have hlen2 : ds.length ≤ 40 := by have := hds.out.1; omega
      go_wp2_with fail
      refine (hck _ B ?_ ?_).mono ?_
      · simp; omega
      · exact hinc.out.alloc (by omega) _
      rintro e w2 ⟨d, rfl, hd1, hd2, hb2⟩
      have hb3 : Below (wr.heap.size + 1) (wr.alloc (.cells #[.int .i64 c.kind, .int .i64 c.inp, .bool c.neg, .slice c.adr c.args.length c.cap] 29)) w2 := hb2.mono (by simp)
      have hown2 := own_below (hR.own.alloc _) (hb3.mono (by simp))
      have hd3 := hd2.mono (fun b hb => And.intro (by simpa using hb.1 : wr.heap.size + 1 ≤ b) hb.2)
      have hs2 : wr.heap.size + 1 ≤ w2.heap.size := by have := hb3.size; simpa using this
      clear hb2 hd2 c0 c1 c2 c3
      go_wp2_with (at_builtin; refine wpList_append_lies _ rfl (.tmp 26) (.tmp 29) 27 rfl (w.heap.size + 3) 29 i0 _ 4 48 Try.underlying27 hi0 hz0 hz1 hz2 rfl (by omega) (.slice ad ds.length ca) ds.length (ds.flatMap WT.cells) rfl (hown2.alloc _) ⟨w2.heap.size, 0, none⟩ 1 1 d.cells rfl rfl (World.news_of_block (cs := #[.int .i64 d.kind, .int .i64 d.inp, .bool d.neg, .slice d.adr d.args.length d.cap]) (t := 29) (fr := (0, 0)) (heap_alloc_new w2 _)) (by simp [WT.cells, Value.oneCell']) (by omega) (by unfold maxLen; omega) (by omega) (by simp; omega) (w2.heap.size + 1) (by simp) ?_; intro gg cap w3 hown3 hg3 hat3 hlt3)
      have hnew := other_step hR hb3 hd3 hown3 hg3 hat3
      go_roundw
      case rel => exact ⟨j + 1, ds ++ [d], some ⟨gg, 0, none⟩, cap, by omega, by go_num, by simp, kids_step hds.out hlt Hce.out hd1, hnew⟩
      case measure => simp [intOf]; omega
    · have b0 : wr.cell? ⟨w.heap.size, 0, none⟩ = some (.int .i64 3) := cell_at hR.box
      have b1 : wr.cell? ⟨w.heap.size, 1, none⟩ = some (.int .i64 i) := cell_at hR.box
      have b2 : wr.cell? ⟨w.heap.size, 2, none⟩ = some (.bool ng) := cell_at hR.box
      have b3 : wr.cell? ⟨w.heap.size, 3, none⟩ = some (.slice adr args.length cp) := cell_at hR.box
      have bf : ∀ q, wr.frozen? ⟨w.heap.size, q, none⟩ = false := fun q => frozen_at hR.box
      have r0 : wr.cell? ⟨w.heap.size + 1, 0, none⟩ = some (.int .i64 0) := cell_at hR.res
      have r1 : wr.cell? ⟨w.heap.size + 1, 1, none⟩ = some (.int .i64 0) := cell_at hR.res
      have r2 : wr.cell? ⟨w.heap.size + 1, 2, none⟩ = some (.bool false) := cell_at hR.res
      have r3 : wr.cell? ⟨w.heap.size + 1, 3, none⟩ = some (.slice none 0 0) := cell_at hR.res
      have rf : ∀ q, wr.frozen? ⟨w.heap.size + 1, q, none⟩ = false := fun q => frozen_at hR.res
      have hend := other_lies hR
      have hbel := hR.below
      have hd2 := Lib.hid (kids_done hds.out (show ¬ j < args.length from hlt))
      have hres : ∀ v, (wr.setCell ⟨w.heap.size, 3, none⟩ v).heap[w.heap.size + 1]? = _ := fun v => (Below.heap_setCell _ _ _ _ (by show _ ≠ w.heap.size; omega)).trans hR.res
      clear hds hR hj
      go_wp2_with fail
      exact bodyPost_ret (v := .agg #[.int .i64 3, .int .i64 i, .bool ng, .slice ad ds.length ca]) (results_other rfl (four (hres _) _ _ _ _)) rfl (other_out hend hbel hr.out hd2.out _ _ _ _)

set_option maxHeartbeats 3200000 in
theorem other_three (i : Int) (ng : Bool) (adr : Option Addr) (cp : Nat) (args : List WT) (w : World) (B : Nat) (hB : B ≤ w.heap.size) (hin : Hid (WT.In w B ⟨3, i, ng, adr, cp, args⟩)) (hlen : args.length ≤ 40)
    (ih : Hid (∀ c ∈ args, OtherOk c)) (c0 : WT) (hr : Hid (c0.strip.dual = .mk 2 i ng (Way.duals (args.map WT.strip)))) :
    Calls Try.prog 18 #[.agg #[.int .i64 3, .int .i64 i, .bool ng, .slice adr args.length cp]] w (DualPost c0 w) := by
  obtain ⟨i0, hi0, hz0, hz1, hz2⟩ := info_parts Try.info29
  go_enter Try.func18, Try.ntmps18
  go_wp2_with fail
  go_loopw [22, 3] (fun s v wr => ∃ (j : Nat) (ds : List WT) (ad : Option Addr) (ca : Nat), j ≤ args.length ∧ s = .int .i64 j ∧ v = .slice ad ds.length ca ∧ Hid (ds.length = j ∧ ds.map WT.strip = Way.duals ((args.take j).map WT.strip)) ∧ OtherRel w wr 2 i ng (.slice adr args.length cp) ds ad ca) (fun s _ _ => args.length - (intOf s).toNat)
  case atStart => exact ⟨0, [], none, 0, by omega, rfl, rfl, ⟨rfl, rfl⟩, other_start _ _ _ _ _ _⟩
  case round =>
    obtain ⟨j, ds, ad, ca, hj, rfl, rfl, hds, hR⟩ := hrel
    have hsz := hR.size
    by_cases hlt : j < args.length
    · obtain ⟨b2, o, had, hbB, c0, c1, c2, c3⟩ := (hin.out.below_ (hR.below.mono hB)).here (i := j) hlt
      simp only at had c0 c1 c2 c3
      have hck := ih.out _ (List.getElem_mem hlt)
      obtain ⟨c, hce⟩ : ∃ c, c = args[j] := ⟨_, rfl⟩
      rw [← hce] at c0 c1 c2 c3 hck
      have hinc := Lib.hid ((hin.out.kid (hce ▸ List.getElem_mem hlt)).below_ (hR.below.mono hB))
      have Hce := Lib.hid hce
      clear hce
      subst had
      have hkI : (j : Int) < (args.length : Int) := by omega
      have hlen2 : ds.length ≤ 40 := by have := hds.out.1; omega
      go_wp2_with fail
      refine (hck _ B ?_ ?_).mono ?_
      · simp; omega
      · exact hinc.out.alloc (by omega) _
      rintro e w2 ⟨d, rfl, hd1, hd2, hb2⟩
      have hb3 : Below (wr.heap.size + 1) (wr.alloc (.cells #[.int .i64 c.kind, .int .i64 c.inp, .bool c.neg, .slice c.adr c.args.length c.cap] 29)) w2 := hb2.mono (by simp)
      have hown2 := own_below (hR.own.alloc _) (hb3.mono (by simp))
      have hd3 := hd2.mono (fun b hb => And.intro (by simpa using hb.1 : wr.heap.size + 1 ≤ b) hb.2)
      have hs2 : wr.heap.size + 1 ≤ w2.heap.size := by have := hb3.size; simpa using this
      clear hb2 hd2 c0 c1 c2 c3
      go_wp2_with (at_builtin; refine wpList_append_lies _ rfl (.tmp 26) (.tmp 29) 27 rfl (w.heap.size + 3) 29 i0 _ 4 48 Try.underlying27 hi0 hz0 hz1 hz2 rfl (by omega) (.slice ad ds.length ca) ds.length (ds.flatMap WT.cells) rfl (hown2.alloc _) ⟨w2.heap.size, 0, none⟩ 1 1 d.cells rfl rfl (World.news_of_block (cs := #[.int .i64 d.kind, .int .i64 d.inp, .bool d.neg, .slice d.adr d.args.length d.cap]) (t := 29) (fr := (0, 0)) (heap_alloc_new w2 _)) (by simp [WT.cells, Value.oneCell']) (by omega) (by unfold maxLen; omega) (by omega) (by simp; omega) (w2.heap.size + 1) (by simp) ?_; intro gg cap w3 hown3 hg3 hat3 hlt3)
      have hnew := other_step hR hb3 hd3 hown3 hg3 hat3
      go_roundw
      case rel => exact ⟨j + 1, ds ++ [d], some ⟨gg, 0, none⟩, cap, by omega, by go_num, by simp, kids_step hds.out hlt Hce.out hd1, hnew⟩
      case measure => simp [intOf]; omega
    · have b0 : wr.cell? ⟨w.heap.size, 0, none⟩ = some (.int .i64 2) := cell_at hR.box
      have b1 : wr.cell? ⟨w.heap.size, 1, none⟩ = some (.int .i64 i) := cell_at hR.box
      have b2 : wr.cell? ⟨w.heap.size, 2, none⟩ = some (.bool ng) := cell_at hR.box
      have b3 : wr.cell? ⟨w.heap.size, 3, none⟩ = some (.slice adr args.length cp) := cell_at hR.box
      have bf : ∀ q, wr.frozen? ⟨w.heap.size, q, none⟩ = false := fun q => frozen_at hR.box
      have r0 : wr.cell? ⟨w.heap.size + 1, 0, none⟩ = some (.int .i64 0) := cell_at hR.res
      have r1 : wr.cell? ⟨w.heap.size + 1, 1, none⟩ = some (.int .i64 0) := cell_at hR.res
      have r2 : wr.cell? ⟨w.heap.size + 1, 2, none⟩ = some (.bool false) := cell_at hR.res
      have r3 : wr.cell? ⟨w.heap.size + 1, 3, none⟩ = some (.slice none 0 0) := cell_at hR.res
      have rf : ∀ q, wr.frozen? ⟨w.heap.size + 1, q, none⟩ = false := fun q => frozen_at hR.res
      have hend := other_lies hR
      have hbel := hR.below
      have hd2 := Lib.hid (kids_done hds.out (show ¬ j < args.length from hlt))
      have hres : ∀ v, (wr.setCell ⟨w.heap.size, 3, none⟩ v).heap[w.heap.size + 1]? = _ := fun v => (Below.heap_setCell _ _ _ _ (by show _ ≠ w.heap.size; omega)).trans hR.res
      clear hds hR hj
      go_wp2_with fail
      exact bodyPost_ret (v := .agg #[.int .i64 2, .int .i64 i, .bool ng, .slice ad ds.length ca]) (results_other rfl (four (hres _) _ _ _ _)) rfl (other_out hend hbel hr.out hd2.out _ _ _ _)

theorem other_any {k : Int} : ∀ c : WT, c.strip.Good k → c.strip.pre.length ≤ 40 → OtherOk c := by
  refine WT.ind ?_
  rintro ⟨kd, i, ng, adr, cp, args⟩ ih hg hl w B hB hin
  have hlen : args.length ≤ 40 := by
    have h1 := Way.args_len (.mk kd i ng (args.map WT.strip))
    rw [WT.strip_eq] at hl
    simp only [Way.args, List.length_map] at h1
    simp only at hl
    omega
  have hk : ∀ c ∈ args, c.strip.Good k → OtherOk c := fun c hc h => ih c hc h (by
    have : c.strip.pre.length < (WT.strip ⟨kd, i, ng, adr, cp, args⟩).pre.length := Way.kid_len (by rw [WT.strip_eq]; exact List.mem_map_of_mem hc)
    omega)
  rw [WT.strip_eq] at hg
  simp only at hg
  rcases hg.inv with ⟨rfl, h0, h1, ha⟩ | ⟨hkd, h0, h1, ha, hgood⟩
  · simp only [Way.args, List.map_eq_nil_iff] at ha
    subst ha
    exact other_one i ng adr cp [] w B hB (Lib.hid hin) hlen (Lib.hid (fun c hc => by cases hc)) _ (Lib.hid (by rw [WT.strip_eq]; simp [Way.dual]))
  · simp only [Way.kind, Way.inp, Way.neg, Way.args] at hkd h0 h1 ha hgood
    subst h0 h1
    have hkid : ∀ c ∈ args, OtherOk c := fun c hc => hk c hc (hgood _ (List.mem_map_of_mem hc))
    rcases hkd with rfl | rfl
    · exact other_two 0 false adr cp args w B hB (Lib.hid hin) hlen (Lib.hid hkid) _ (Lib.hid (by rw [WT.strip_eq]; simp [Way.dual]))
    · exact other_three 0 false adr cp args w B hB (Lib.hid hin) hlen (Lib.hid hkid) _ (Lib.hid (by rw [WT.strip_eq]; simp [Way.dual]))
end Go.Proofs.Ytbjadcanfngijaa
