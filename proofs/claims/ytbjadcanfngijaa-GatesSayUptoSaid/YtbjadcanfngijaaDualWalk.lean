/- gates.dual walked at Series and Parallel: it answers the dual in new memory, and touches nothing that was there. -/
import Derived.Test.YtbjadcanfngijaaDual2
import Derived.Deep.RegionLaw
namespace Go.Proofs.Ytbjadcanfngijaa
open Go.RowKit

set_option maxHeartbeats 3200000 in
theorem dual_series (i : Int) (ng : Bool) (adr : Option Addr) (cp : Nat) (args : List WT) (w : World) (B : Nat) (hB : B ≤ w.heap.size) (hin : Hid (WT.In w B ⟨2, i, ng, adr, cp, args⟩)) (hlen : args.length ≤ 40)
    (ih : Hid (∀ c ∈ args, DualOk c)) (c0 : WT) (hr : Hid (c0.strip.dual = .mk 3 0 false (Way.duals (args.map WT.strip)))) :
    Calls Try.prog 21 #[.agg #[.int .i64 2, .int .i64 i, .bool ng, .slice adr args.length cp]] w (DualPost c0 w) := by
  obtain ⟨i0, hi0, hz0, hz1, hz2⟩ := info_parts Try.info29
  go_enter Try.func21, Try.ntmps21
  go_wp2_with fail
  go_loopw [23] (fun s wr => ∃ (j : Nat) (ds : List WT) (ad : Option Addr) (ca : Nat), j ≤ args.length ∧ s = .int .i64 j ∧ Hid (ds.length = j ∧ ds.map WT.strip = Way.duals ((args.take j).map WT.strip)) ∧ DualRel w wr 3 ds ad ca) (fun s _ => args.length - (intOf s).toNat)
  case atStart => exact ⟨0, [], none, 0, by omega, rfl, ⟨rfl, rfl⟩, dual_start w _ 3⟩
  case round =>
    obtain ⟨j, ds, ad, ca, hj, rfl, hds, hR⟩ := hrel
    by_cases hlt : j < args.length
    · obtain ⟨b2, o, had, hbB, c0, c1, c2, c3⟩ := (hin.out.below_ (hR.below.mono hB)).here (i := j) hlt
      simp only at had c0 c1 c2 c3
      have hck := ih.out _ (List.getElem_mem hlt)
      obtain ⟨c, hce⟩ : ∃ c, c = args[j] := ⟨_, rfl⟩
      rw [← hce] at c0 c1 c2 c3 hck
      have hinc := Lib.hid ((hin.out.kid (hce ▸ List.getElem_mem hlt)).below_ (hR.below.mono hB))
      have Hce := Lib.hid hce
      clear hce
      subst had
      have hkI : (j : Int) < (args.length : Int) := by omega
      have hsz := hR.size
      have hlen2 : ds.length ≤ 40 := by have := hds.out.1; omega
      have hout : ∀ o, (wr.alloc o).cell? ⟨w.heap.size + 1 + 1, 3, none⟩ = some (.slice ad ds.length ca) := fun o => (World.cell?_alloc_lt wr o ⟨_, 3, none⟩ (by show _ + 1 + 1 < _; omega)).trans (cell_at hR.out)
      have hfo : ∀ o, (wr.alloc o).frozen? ⟨w.heap.size + 1 + 1, 3, none⟩ = false := fun o => frozen_at ((Below.heap_alloc wr o _ (by omega)).trans hR.out)
      have hne1 : some (w.heap.size + 1 + 1) ≠ (Value.slice ad ds.length ca).ownBlock := own_lo hR.own (by omega)
      go_wp2_with fail
      clear c0 c1 c2 c3
      go_region_law
        (first
          | (go_simp; go_at_call 21; refine (hck _ B ?_ ?_).mono ?_; (simp; omega); exact (hinc.out.alloc (by omega) _).keep (fun _ _ _ => rfl); rintro e w2 ⟨d, rfl, hd1, hd2, hb2⟩
             have k0 : w2.cell? ⟨w.heap.size + 1 + 1, 3, none⟩ = some (.slice ad ds.length ca) := (hb2.cell (p := ⟨w.heap.size + 1 + 1, 3, none⟩) (by simp; omega)).trans (hout _)
             have kf : w2.frozen? ⟨w.heap.size + 1 + 1, 3, none⟩ = false := (hb2.frozen (p := ⟨w.heap.size + 1 + 1, 3, none⟩) (by simp; omega)).trans (hfo _)
             have hs2 : wr.heap.size + 1 ≤ w2.heap.size := by have := hb2.size; simpa using this
             have k5 : ∀ o, (w2.alloc o).cell? ⟨w.heap.size + 1 + 1, 3, none⟩ = some (.slice ad ds.length ca) := fun o => (World.cell?_alloc_lt w2 o ⟨w.heap.size + 1 + 1, 3, none⟩ (by show _ + 1 + 1 < _; omega)).trans k0
             have hb3 : Below (wr.heap.size + 1) (wr.alloc (.cells #[.int .i64 c.kind, .int .i64 c.inp, .bool c.neg, .slice c.adr c.args.length c.cap] 29)) w2 := ⟨hb2.os, hb2.tape, hb2.output, by simpa using hs2, fun q hq => hb2.block q (by simpa using hq)⟩
             have hown2 := own_below (hR.own.alloc _) (hb3.mono (by simp))
             have hd3 := hd2.mono (fun b hb => And.intro (by simpa using hb.1 : wr.heap.size + 1 ≤ b) hb.2)
             clear hb2 hd2)
          | (refine step_append_lies _ (by rfl) _ _ _ (by rfl) (w.heap.size + 3) 29 i0 _ 4 48 Try.underlying27 hi0 hz0 hz1 hz2 rfl (by omega) (.slice ad ds.length ca) ds.length (ds.flatMap WT.cells) (by rfl) (hown2.alloc _)
               ⟨w2.heap.size, 0, none⟩ 1 1 d.cells (by rfl) (by rfl) (World.news_of_block (cs := #[.int .i64 d.kind, .int .i64 d.inp, .bool d.neg, .slice d.adr d.args.length d.cap]) (t := 29) (fr := (0, 0)) (heap_alloc_new w2 _)) (by simp [WT.cells, Value.oneCell'])
               (by omega) (by unfold maxLen; omega) (by omega) (by simp; omega) (w2.heap.size + 1) (by simp) ?_; intro gg cap w3 hown3 hg3 hat3 hlt3
             have m0 : w3.cell? ⟨w.heap.size + 1 + 1, 3, none⟩ = some (.slice ad ds.length ca) := (hg3.cell_far ⟨w.heap.size + 1 + 1, 3, none⟩ (by simp; omega) hne1).trans ((World.cell?_alloc_lt w2 _ ⟨w.heap.size + 1 + 1, 3, none⟩ (by show _ + 1 + 1 < _; omega)).trans k0)
             have mf : w3.frozen? ⟨w.heap.size + 1 + 1, 3, none⟩ = false := (hg3.frozen_far ⟨w.heap.size + 1 + 1, 3, none⟩ (by simp; omega) hne1).trans ((World.frozen?_alloc_old w2 _ ⟨w.heap.size + 1 + 1, 3, none⟩ (by show _ + 1 + 1 ≠ _; omega)).trans kf)))
      all_goals
        have hnew := dual_step hR hb3 hd3 hown3 hg3 hat3 hlt3
        clear hout hfo k5 k0 kf m0 mf
        go_wp2_with fail
        go_roundw
        case rel => exact ⟨j + 1, ds ++ [d], some ⟨gg, 0, none⟩, cap, by omega, by go_num, kids_step hds.out hlt Hce.out hd1, hnew⟩
        case measure => simp [intOf]; omega
    · have hsz := hR.size
      have o0 : wr.cell? ⟨w.heap.size + 1 + 1, 0, none⟩ = some (.int .i64 3) := cell_at hR.out
      have o1 : wr.cell? ⟨w.heap.size + 1 + 1, 1, none⟩ = some (.int .i64 0) := cell_at hR.out
      have o2 : wr.cell? ⟨w.heap.size + 1 + 1, 2, none⟩ = some (.bool false) := cell_at hR.out
      have o3 : wr.cell? ⟨w.heap.size + 1 + 1, 3, none⟩ = some (.slice ad ds.length ca) := cell_at hR.out
      have r0 : wr.cell? ⟨w.heap.size + 1, 0, none⟩ = some (.int .i64 0) := cell_at hR.res
      have r1 : wr.cell? ⟨w.heap.size + 1, 1, none⟩ = some (.int .i64 0) := cell_at hR.res
      have r2 : wr.cell? ⟨w.heap.size + 1, 2, none⟩ = some (.bool false) := cell_at hR.res
      have r3 : wr.cell? ⟨w.heap.size + 1, 3, none⟩ = some (.slice none 0 0) := cell_at hR.res
      have rf : ∀ q, wr.frozen? ⟨w.heap.size + 1, q, none⟩ = false := fun q => frozen_at hR.res
      have hend := dual_lies hR
      have hbel := hR.below
      have hd2 := Lib.hid (kids_done hds.out (show ¬ j < args.length from hlt))
      have hres := hR.res
      clear hds hR hj
      go_wp2_with fail
      exact bodyPost_ret (v := .agg #[.int .i64 3, .int .i64 0, .bool false, .slice ad ds.length ca]) (results_dual rfl (four hres _ _ _ _)) rfl (dual_out hend hbel hr.out hd2.out _ _ _ _)

set_option maxHeartbeats 3200000 in
theorem dual_parallel (i : Int) (ng : Bool) (adr : Option Addr) (cp : Nat) (args : List WT) (w : World) (B : Nat) (hB : B ≤ w.heap.size) (hin : Hid (WT.In w B ⟨3, i, ng, adr, cp, args⟩)) (hlen : args.length ≤ 40)
    (ih : Hid (∀ c ∈ args, DualOk c)) (c0 : WT) (hr : Hid (c0.strip.dual = .mk 2 0 false (Way.duals (args.map WT.strip)))) :
    Calls Try.prog 21 #[.agg #[.int .i64 3, .int .i64 i, .bool ng, .slice adr args.length cp]] w (DualPost c0 w) := by
  obtain ⟨i0, hi0, hz0, hz1, hz2⟩ := info_parts Try.info29
  go_enter Try.func21, Try.ntmps21
  go_wp2_with fail
  go_loopw [23] (fun s wr => ∃ (j : Nat) (ds : List WT) (ad : Option Addr) (ca : Nat), j ≤ args.length ∧ s = .int .i64 j ∧ Hid (ds.length = j ∧ ds.map WT.strip = Way.duals ((args.take j).map WT.strip)) ∧ DualRel w wr 2 ds ad ca) (fun s _ => args.length - (intOf s).toNat)
  case atStart => exact ⟨0, [], none, 0, by omega, rfl, ⟨rfl, rfl⟩, dual_start w _ 2⟩
  case round =>
    obtain ⟨j, ds, ad, ca, hj, rfl, hds, hR⟩ := hrel
    by_cases hlt : j < args.length
    · obtain ⟨b2, o, had, hbB, c0, c1, c2, c3⟩ := (hin.out.below_ (hR.below.mono hB)).here (i := j) hlt
      simp only at had c0 c1 c2 c3
      have hck := ih.out _ (List.getElem_mem hlt)
      obtain ⟨c, hce⟩ : ∃ c, c = args[j] := ⟨_, rfl⟩
      rw [← hce] at c0 c1 c2 c3 hck
      have hinc := Lib.hid ((hin.out.kid (hce ▸ List.getElem_mem hlt)).below_ (hR.below.mono hB))
      have Hce := Lib.hid hce
      clear hce
      subst had
      have hkI : (j : Int) < (args.length : Int) := by omega
      have hsz := hR.size
      have hlen2 : ds.length ≤ 40 := by have := hds.out.1; omega
      have hout : ∀ o, (wr.alloc o).cell? ⟨w.heap.size + 1 + 1, 3, none⟩ = some (.slice ad ds.length ca) := fun o => (World.cell?_alloc_lt wr o ⟨_, 3, none⟩ (by show _ + 1 + 1 < _; omega)).trans (cell_at hR.out)
      have hfo : ∀ o, (wr.alloc o).frozen? ⟨w.heap.size + 1 + 1, 3, none⟩ = false := fun o => frozen_at ((Below.heap_alloc wr o _ (by omega)).trans hR.out)
      have hne1 : some (w.heap.size + 1 + 1) ≠ (Value.slice ad ds.length ca).ownBlock := own_lo hR.own (by omega)
      go_wp2_with fail
      clear c0 c1 c2 c3
      go_region_law
        (first
          | (go_simp; go_at_call 21; refine (hck _ B ?_ ?_).mono ?_; (simp; omega); exact (hinc.out.alloc (by omega) _).keep (fun _ _ _ => rfl); rintro e w2 ⟨d, rfl, hd1, hd2, hb2⟩
             have k0 : w2.cell? ⟨w.heap.size + 1 + 1, 3, none⟩ = some (.slice ad ds.length ca) := (hb2.cell (p := ⟨w.heap.size + 1 + 1, 3, none⟩) (by simp; omega)).trans (hout _)
             have kf : w2.frozen? ⟨w.heap.size + 1 + 1, 3, none⟩ = false := (hb2.frozen (p := ⟨w.heap.size + 1 + 1, 3, none⟩) (by simp; omega)).trans (hfo _)
             have hs2 : wr.heap.size + 1 ≤ w2.heap.size := by have := hb2.size; simpa using this
             have k5 : ∀ o, (w2.alloc o).cell? ⟨w.heap.size + 1 + 1, 3, none⟩ = some (.slice ad ds.length ca) := fun o => (World.cell?_alloc_lt w2 o ⟨w.heap.size + 1 + 1, 3, none⟩ (by show _ + 1 + 1 < _; omega)).trans k0
             have hb3 : Below (wr.heap.size + 1) (wr.alloc (.cells #[.int .i64 c.kind, .int .i64 c.inp, .bool c.neg, .slice c.adr c.args.length c.cap] 29)) w2 := ⟨hb2.os, hb2.tape, hb2.output, by simpa using hs2, fun q hq => hb2.block q (by simpa using hq)⟩
             have hown2 := own_below (hR.own.alloc _) (hb3.mono (by simp))
             have hd3 := hd2.mono (fun b hb => And.intro (by simpa using hb.1 : wr.heap.size + 1 ≤ b) hb.2)
             clear hb2 hd2)
          | (refine step_append_lies _ (by rfl) _ _ _ (by rfl) (w.heap.size + 3) 29 i0 _ 4 48 Try.underlying27 hi0 hz0 hz1 hz2 rfl (by omega) (.slice ad ds.length ca) ds.length (ds.flatMap WT.cells) (by rfl) (hown2.alloc _)
               ⟨w2.heap.size, 0, none⟩ 1 1 d.cells (by rfl) (by rfl) (World.news_of_block (cs := #[.int .i64 d.kind, .int .i64 d.inp, .bool d.neg, .slice d.adr d.args.length d.cap]) (t := 29) (fr := (0, 0)) (heap_alloc_new w2 _)) (by simp [WT.cells, Value.oneCell'])
               (by omega) (by unfold maxLen; omega) (by omega) (by simp; omega) (w2.heap.size + 1) (by simp) ?_; intro gg cap w3 hown3 hg3 hat3 hlt3
             have m0 : w3.cell? ⟨w.heap.size + 1 + 1, 3, none⟩ = some (.slice ad ds.length ca) := (hg3.cell_far ⟨w.heap.size + 1 + 1, 3, none⟩ (by simp; omega) hne1).trans ((World.cell?_alloc_lt w2 _ ⟨w.heap.size + 1 + 1, 3, none⟩ (by show _ + 1 + 1 < _; omega)).trans k0)
             have mf : w3.frozen? ⟨w.heap.size + 1 + 1, 3, none⟩ = false := (hg3.frozen_far ⟨w.heap.size + 1 + 1, 3, none⟩ (by simp; omega) hne1).trans ((World.frozen?_alloc_old w2 _ ⟨w.heap.size + 1 + 1, 3, none⟩ (by show _ + 1 + 1 ≠ _; omega)).trans kf)))
      all_goals
        have hnew := dual_step hR hb3 hd3 hown3 hg3 hat3 hlt3
        clear hout hfo k5 k0 kf m0 mf
        go_wp2_with fail
        go_roundw
        case rel => exact ⟨j + 1, ds ++ [d], some ⟨gg, 0, none⟩, cap, by omega, by go_num, kids_step hds.out hlt Hce.out hd1, hnew⟩
        case measure => simp [intOf]; omega
    · have hsz := hR.size
      have o0 : wr.cell? ⟨w.heap.size + 1 + 1, 0, none⟩ = some (.int .i64 2) := cell_at hR.out
      have o1 : wr.cell? ⟨w.heap.size + 1 + 1, 1, none⟩ = some (.int .i64 0) := cell_at hR.out
      have o2 : wr.cell? ⟨w.heap.size + 1 + 1, 2, none⟩ = some (.bool false) := cell_at hR.out
      have o3 : wr.cell? ⟨w.heap.size + 1 + 1, 3, none⟩ = some (.slice ad ds.length ca) := cell_at hR.out
      have r0 : wr.cell? ⟨w.heap.size + 1, 0, none⟩ = some (.int .i64 0) := cell_at hR.res
      have r1 : wr.cell? ⟨w.heap.size + 1, 1, none⟩ = some (.int .i64 0) := cell_at hR.res
      have r2 : wr.cell? ⟨w.heap.size + 1, 2, none⟩ = some (.bool false) := cell_at hR.res
      have r3 : wr.cell? ⟨w.heap.size + 1, 3, none⟩ = some (.slice none 0 0) := cell_at hR.res
      have rf : ∀ q, wr.frozen? ⟨w.heap.size + 1, q, none⟩ = false := fun q => frozen_at hR.res
      have hend := dual_lies hR
      have hbel := hR.below
      have hd2 := Lib.hid (kids_done hds.out (show ¬ j < args.length from hlt))
      have hres := hR.res
      clear hds hR hj
      go_wp2_with fail
      exact bodyPost_ret (v := .agg #[.int .i64 2, .int .i64 0, .bool false, .slice ad ds.length ca]) (results_dual rfl (four hres _ _ _ _)) rfl (dual_out hend hbel hr.out hd2.out _ _ _ _)

end Go.Proofs.Ytbjadcanfngijaa
