/- The statement 'GatesSay', its second form: for every expression, every slice of inputs and every number of inputs, of bulk at most 1048576 together, GatesSay returns true, and all read afterwards as before. Conditions: the bound, beside the row's own. -/
import Derived.Test.YtbjadcanfngijaaSayGood
import Derived.Test.YtbjadcanfngijaaRead2
import Derived.JoinedCond
namespace Go.Proofs.Ytbjadcanfngijaa
open Go.ChangeShapes Go.WideShapes Go.ChangeAt Go.RowKit

theorem Try.ownSay : ownKnob Try.prog.godebug = none := by kernel_rfl
theorem Try.laidOutSay : laidOutB Try.prog = true := by kernel_rfl

theorem say_any (c : WT) (hs : c.Small) (hf : c.strip.pre.length ≤ 1048577) (xs : List Int) (A : Option Addr) (cx : Nat) (k : Int) (w : World) (B : Nat) (hB : B ≤ w.heap.size) (hin : c.In w B) (hx : IntsAt w B A xs) (hn : xs.length ≤ 9223372036854775807) :
    Calls Try.prog 5 #[c.agg, .slice A xs.length cx, .int .i64 k] w fun e w' => e = .returned (.bool true) ∧ Below w.heap.size w w' := by
  by_cases h0 : Way.chk k c.strip = 0
  · have hg := Way.chk_good h0
    obtain ⟨n, rfl⟩ := Int.eq_ofNat_of_zero_le hg.1
    have hn6 : n ≤ 6 := by omega
    have hN : (2 : Nat) ^ n ≤ 2 ^ 6 := Nat.pow_le_pow_right (by omega) hn6
    have hT : Way.tab n c.strip < 2 ^ 64 := Nat.lt_of_lt_of_le (Way.tabTo_lt _ c.strip (2 ^ n)) (Nat.pow_le_pow_right (by omega) (by omega))
    exact say_good c hs hf xs A cx xs.length n hn6 w B hB (Lib.hid hin) (Lib.hid hx) (Lib.hid rfl) hn (Lib.hid h0) _ (Lib.hid rfl) (Lib.hid (by omega)) (2 ^ n) (Lib.hid rfl) (by omega) (pow_small rfl (by omega)) _ _ (Lib.hid rfl) _ (Lib.hid rfl)
  · exact say_bad c hs hf xs A cx xs.length k w B hB (Lib.hid hin) (Lib.hid hx) (Lib.hid rfl) hn (Lib.hid h0) _ (Lib.hid rfl) _ _ (Lib.hid rfl) _ (Lib.hid rfl)

/-- what the walk gives, for readings of bounded bulk. -/
theorem say_contract (H : Type) (enc : TypeId × Value → H) (W : World) (base : Nat) (args : Array Value) (ds gs : List (DataW H)) (before : List MemPlace)
    (hval0 : ∀ (j : Nat) t v, Try.f5.params[j]? = some t → args[j]? = some v → Value.okWide Try.prog W .any base t v)
    (hW : DataW.Whole enc Try.prog Try.f5.params.toList Rows.gatesSaySpec.vars false W args.toList ds gs before) (hk : Rows.uptoSmall H (ds ++ gs) = true) :
    Calls Try.prog 5 args W fun e W' => ∃ v, e = .returned v ∧ Rows.gatesSaySpec.post enc Try.prog Try.f5 false true false false W args v W' := by
  have hval : ∀ (j : Nat) t v, Try.f5.params[j]? = some t → args[j]? = some v → Value.okWide Try.prog W .any base t v := hval0
  have hW' := hW
  obtain ⟨p, q, hA0, hV, rfl, _, _⟩ := hW
  have hA : DataW.TrodAll enc Try.prog W 0 (fun _ => true) true Try.f5.params.toList args.toList ds p := hA0
  rw [Try.params5] at hA hval
  obtain ⟨v0, v1, v2, d0, d1, d2, p0, p1, p2, rfl, rfl, rfl, h0, h1, h2⟩ := trodAll_three hA
  obtain ⟨rfl, rfl⟩ := trodVars_none hV
  clear hA0 hval0
  simp only [List.append_nil] at hW' hk
  have hlt : ∀ x ∈ p0 ++ p1 ++ p2, x.block < W.heap.size := fun x hx => by simpa using hW'.lt x hx
  obtain ⟨cs, rfl, hsz⟩ := okWide_struct Try.underlying29 (hval 0 29 v0 rfl rfl)
  obtain ⟨a1, len1, cap1, rfl⟩ := okWide_slice Try.underlying24 (hval 1 24 v1 rfl rfl)
  obtain ⟨k, rfl⟩ := okWide_int Try.underlying3 (hval 2 3 v2 rfl rfl)
  have h0k := h0
  have h1k := h1
  obtain ⟨f0, hf0⟩ := h0
  obtain ⟨f1, hf1⟩ := h1
  obtain ⟨t, ht, hin, hsm, hbk⟩ := way_read2 f0 _ _ hf0
  obtain ⟨xs, A, cx, hx, hxs, hxl⟩ := ints_read (by simpa [Value.cells] using hf1)
  have hlen : t.strip.pre.length ≤ 1048577 := by
    have h : Rows.uptoBulkAll [d0, d1, d2] ≤ 1048576 := of_decide_eq_true hk
    simp only [Rows.uptoBulkAll] at h
    simp only at hbk
    omega
  have hv0 : Value.agg cs = t.agg := by
    have : cs.toList = [.int .i64 t.kind, .int .i64 t.inp, .bool t.neg, .slice t.adr t.args.length t.cap] := by simpa [Value.cells] using ht
    unfold WT.agg
    congr 1
    exact Array.toList_inj.1 this
  rw [hv0] at h0k hW' ⊢
  rw [hx] at h1k hW' ⊢
  refine (say_any t hsm hlen xs A cx k W W.heap.size (Nat.le_refl _) hin hxs hxl).mono fun e W' ⟨he, hb⟩ => ?_
  subst he
  refine ⟨_, rfl, _, _, _, [], p0 ++ p1 ++ p2, [], hW', trodAll_mk1 (shut_bool Try.underlying4 true), ?_, rfl, hb.frame _, fun h => by cases h⟩
  rw [List.append_assoc]
  exact trodAll_mk3 (Below.trod Try.laidOutSay (by kernel_rfl) (of_decide_eq_true (by kernel_rfl)) h0k hb (fun x hx => hlt x (by simp [hx])))
    (Below.trod Try.laidOutSay (by kernel_rfl) (of_decide_eq_true (by kernel_rfl)) h1k hb (fun x hx => hlt x (by simp [hx])))
    (Below.trod Try.laidOutSay (by kernel_rfl) (of_decide_eq_true (by kernel_rfl)) h2 hb (fun x hx => hlt x (by simp [hx])))

set_option maxRecDepth 100000 in
theorem say_lifted (os : Os) (started : os.Started) (H : Type) (enc : TypeId × Value → H) (F : Stop.Interp) :
    ReturnsInHanded {} Try.checked os 5 .any ((Rows.OpenSpec.upto Rows.gatesSaySpec).pre6 enc Try.prog Try.f5 Rows.gatesSayUptoRow.domain false) (((Rows.OpenSpec.upto Rows.gatesSaySpec).at F).post enc Try.prog Try.f5 false true false false) := by
  refine returnsInHanded_of_cond (C := Try.checked) (s := Rows.OpenSpec.upto Rows.gatesSaySpec) (k := Rows.uptoSmall) rfl Try.ownSay started (by kernel_rfl) Try.func5
    (OpenSpec.witness (enc := enc) (C := Try.checked) (s := Rows.OpenSpec.upto Rows.gatesSaySpec) (k := Rows.uptoSmall) rfl false ⟨#[], #[.agg #[.int .i64 0, .int .i64 0, .bool false, .slice none 0 0], .slice none 0 0, .int .i64 0], []⟩ 8 (by kernel_rfl) (by kernel_rfl) (by kernel_rfl)
      (x := ([.agg [.lit (.int .i64 0), .lit (.int .i64 0), .lit (.bool false), .nil], .nil, .lit (.int .i64 0)], [], [])) (by kernel_rfl) rfl (by kernel_rfl)) ?_
  intro W base args ds gs before hval hW _ hk _
  exact say_contract H enc W base args ds gs before hval hW hk

theorem say_holds : Rows.GatesSayUptoSaid :=
  OpenClaim.holds_of_cond 5 Try.f5 rfl rfl rfl rfl rfl rfl rfl ⟨rfl, rfl, rfl, rfl, rfl⟩ rfl rfl rfl rfl rfl (by kernel_rfl) Try.func5 (by kernel_rfl)
    (of_decide_eq_true (by kernel_rfl)) (by unfold Func.isWrapper; first | (rw [if_pos (by decide +kernel)]; kernel_rfl) | (rw [if_neg (by decide +kernel)]; exact ⟨rfl, rfl⟩))
    (fun os started H enc _ F => say_lifted os started H enc F)
end Go.Proofs.Ytbjadcanfngijaa
