/- gates.dual walked. -/
import Derived.Test.YtbjadcanfngijaaMem
import Derived.Test.YtbjadcanfngijaaPlain4
import Derived.Deep.RegionHeld3
import Derived.Deep.AppendLies
namespace Go.Proofs.Ytbjadcanfngijaa
open Go.RowKit

theorem Try.info29 : (Try.prog.info? 29).map (fun i => (i.zero, i.size, i.bytes)) = some (some (.agg #[.int .i64 0, .int .i64 0, .bool false, .slice none 0 0]), 4, 48) := by kernel_rfl

namespace WT
/-- it lies in w, each of its lists in a block of S. -/
inductive Lies (w : World) (S : Nat → Prop) : WT → Prop
  | mk (t : WT) (here : 0 < t.args.length → ∃ b o, t.adr = some ⟨b, o, none⟩ ∧ S b ∧ ∀ i (h : i < t.args.length),
      w.cell? ⟨b, o + i * 4, none⟩ = some (.int .i64 t.args[i].kind) ∧ w.cell? ⟨b, o + i * 4 + 1, none⟩ = some (.int .i64 t.args[i].inp) ∧
      w.cell? ⟨b, o + i * 4 + 2, none⟩ = some (.bool t.args[i].neg) ∧ w.cell? ⟨b, o + i * 4 + 3, none⟩ = some (.slice t.args[i].adr t.args[i].args.length t.args[i].cap))
      (below : ∀ c ∈ t.args, Lies w S c) : Lies w S t
theorem Lies.keep {w w' : World} {S : Nat → Prop} {t : WT} (h : Lies w S t) (hk : ∀ b o, S b → w'.cell? ⟨b, o, none⟩ = w.cell? ⟨b, o, none⟩) : Lies w' S t := by
  induction h with
  | mk t here _ ih =>
    refine .mk t (fun h0 => ?_) ih
    obtain ⟨b, o, e, hb, hc⟩ := here h0
    refine ⟨b, o, e, hb, fun i hi => ?_⟩
    rw [hk b _ hb, hk b _ hb, hk b _ hb, hk b _ hb]
    exact hc i hi
theorem Lies.mono {w : World} {S S' : Nat → Prop} {t : WT} (h : Lies w S t) (hS : ∀ b, S b → S' b) : Lies w S' t := by
  induction h with
  | mk t here _ ih =>
    refine .mk t (fun h0 => ?_) ih
    obtain ⟨b, o, e, hb, hc⟩ := here h0
    exact ⟨b, o, e, hS b hb, hc⟩
theorem Lies.in_ {w : World} {S : Nat → Prop} {B : Nat} {t : WT} (h : Lies w S t) (hS : ∀ b, S b → b < B) : In w B t := by
  induction h with
  | mk t here _ ih =>
    refine .mk t (fun h0 => ?_) ih
    obtain ⟨b, o, e, hb, hc⟩ := here h0
    exact ⟨b, o, e, hS b hb, hc⟩
end WT

/-- its four cells. -/
def WT.cells (t : WT) : List Value := [.int .i64 t.kind, .int .i64 t.inp, .bool t.neg, .slice t.adr t.args.length t.cap]

def Fresh (w w' : World) (b : Nat) : Prop := w.heap.size ≤ b ∧ b < w'.heap.size

def DualPost (c : WT) (w : World) (e : Ending) (w' : World) : Prop := ∃ d : WT, e = .returned (.agg #[.int .i64 d.kind, .int .i64 d.inp, .bool d.neg, .slice d.adr d.args.length d.cap]) ∧ d.strip = Way.dual c.strip ∧ d.Lies w' (Fresh w w') ∧ Below w.heap.size w w'

def DualOk (c : WT) : Prop := ∀ (w : World) (B : Nat), B ≤ w.heap.size → c.In w B → Calls Try.prog 21 #[c.agg] w (DualPost c w)

/-- the loop's relation: what has been made so far. -/
structure DualRel (w wr : World) (k2 : Int) (ds : List WT) (adr : Option Addr) (cap : Nat) : Prop where
  below : Below w.heap.size w wr
  size : w.heap.size + 3 ≤ wr.heap.size
  res : wr.heap[w.heap.size + 1]? = some (.cells #[.int .i64 0, .int .i64 0, .bool false, .slice none 0 0] 29 (0, 0))
  out : wr.heap[w.heap.size + 2]? = some (.cells #[.int .i64 k2, .int .i64 0, .bool false, .slice adr ds.length cap] 29 (0, 0))
  own : wr.ownsRow (w.heap.size + 3) 29 4 (.slice adr ds.length cap) ds.length (ds.flatMap WT.cells)
  kids : ∀ d ∈ ds, d.Lies wr fun b => w.heap.size + 3 ≤ b ∧ b < wr.heap.size ∧ (Value.slice adr ds.length cap).ownBlock ≠ some b

theorem cell_at {w : World} {b i : Nat} {cs : Array Value} {t : TypeId} (h : w.heap[b]? = some (.cells cs t (0, 0))) : w.cell? ⟨b, i, none⟩ = cs[i]? := cell_of_row w b i cs t (0, 0) h


theorem frozen_at {w : World} {b i : Nat} {cs : Array Value} {t : TypeId} (h : w.heap[b]? = some (.cells cs t (0, 0))) : w.frozen? ⟨b, i, none⟩ = false := by simp [World.frozen?, h]

theorem own_below {w w' : World} {base : Nat} {e : TypeId} {size n : Nat} {v : Value} {xs : List Value} (h : w.ownsRow base e size v n xs) (hb : Below w.heap.size w w') : w'.ownsRow base e size v n xs :=
  h.kept (row := none) ⟨hb.os, hb.tape, hb.output, hb.size, fun k hk _ => hb.block k hk⟩ (by cases hv : v.ownBlock <;> simp)

theorem own_lo {w : World} {base : Nat} {e : TypeId} {size n : Nat} {v : Value} {xs : List Value} (h : w.ownsRow base e size v n xs) {b : Nat} (hb : b < base) : some b ≠ v.ownBlock := by
  intro e'
  have := (h.lt b e'.symm).1
  omega

theorem dual_step {w wr w2 w3 : World} {k2 : Int} {ds : List WT} {adr : Option Addr} {cap : Nat} {X Y : Obj} {d : WT} {gg ca : Nat} (h : DualRel w wr k2 ds adr cap)
    (hb2 : Below (wr.heap.size + 1) (wr.alloc X) w2) (hd : d.Lies w2 fun b => wr.heap.size + 1 ≤ b ∧ b < w2.heap.size)
    (hown : w3.ownsRow (w.heap.size + 3) 29 4 (.slice (some ⟨gg, 0, none⟩) (ds.length + 1) ca) (ds.length + 1) (ds.flatMap WT.cells ++ d.cells))
    (hg : (w2.alloc Y).grownBy w3 (Value.slice adr ds.length cap).ownBlock) (hat : (Value.slice adr ds.length cap).ownBlock = some gg ∨ gg = w2.heap.size + 1) (hlt : gg < w3.heap.size) :
    DualRel w (w3.setCell ⟨w.heap.size + 1 + 1, 3, none⟩ (.slice (some ⟨gg, 0, none⟩) (ds.length + 1) ca)) k2 (ds ++ [d]) (some ⟨gg, 0, none⟩) ca := by
  have hsz := h.size
  have hs2 := hb2.size
  have hs3 := hg.size
  simp only [World.size_alloc] at hs2 hs3
  have hgg : w.heap.size + 3 ≤ gg := (hown.lt gg (by rfl)).1
  -- what was there is there
  have keep : ∀ b, b < wr.heap.size → some b ≠ (Value.slice adr ds.length cap).ownBlock → w3.heap[b]? = wr.heap[b]? := fun b hb hne => by
    rw [hg.block b (by simp; omega) hne, Below.heap_alloc w2 Y b (by omega), hb2.block b (by omega), Below.heap_alloc wr X b hb]
  have b1 : Below w.heap.size w w3 := by
    refine ⟨?_, ?_, ?_, ?_, fun b hb => ?_⟩
    · rw [hg.os]; show w2.os = _; rw [hb2.os]; exact h.below.os
    · rw [hg.tape]; show w2.tape = _; rw [hb2.tape]; exact h.below.tape
    · rw [hg.output]; show w2.output = _; rw [hb2.output]; exact h.below.output
    · omega
    · rw [keep b (by omega) (own_lo h.own (by omega))]; exact h.below.block b hb
  have ho : w3.heap[w.heap.size + 2]? = some (.cells #[.int .i64 k2, .int .i64 0, .bool false, .slice adr ds.length cap] 29 (0, 0)) := (keep _ (by omega) (own_lo h.own (by omega))).trans h.out
  have hr : w3.heap[w.heap.size + 1]? = some (.cells #[.int .i64 0, .int .i64 0, .bool false, .slice none 0 0] 29 (0, 0)) := (keep _ (by omega) (own_lo h.own (by omega))).trans h.res
  refine ⟨b1.setCell (by show _ ≤ w.heap.size + 1 + 1; omega) _, by simp [World.setCell]; omega, ?_, ?_, ?_, ?_⟩
  · rw [Below.heap_setCell _ _ _ _ (by show _ ≠ w.heap.size + 1 + 1; omega)]; exact hr
  · simp [World.setCell, Array.getElem?_modify, ho]
  · rw [List.flatMap_append, List.length_append]
    simp only [List.flatMap_cons, List.flatMap_nil, List.append_nil, List.length_cons, List.length_nil]
    exact ownsRow_setCell_other hown (by simp [Value.ownBlock]; omega) _
  · intro c hc
    have far : ∀ b, b ≠ w.heap.size + 1 + 1 → ∀ o, (w3.setCell ⟨w.heap.size + 1 + 1, 3, none⟩ (.slice (some ⟨gg, 0, none⟩) (ds.length + 1) ca)).cell? ⟨b, o, none⟩ = w3.cell? ⟨b, o, none⟩ := fun b hb o =>
      World.cell?_of_block (w := w3) (a := ⟨b, o, none⟩) (Below.heap_setCell _ _ _ _ hb)
    rcases List.mem_append.1 hc with hc | hc
    · refine ((h.kids c hc).keep fun b o hb => ?_).mono fun b hb => ?_
      · rw [far b (by omega)]
        exact World.cell?_of_block (w := wr) (a := ⟨b, o, none⟩) (keep b hb.2.1 (fun e => hb.2.2 e.symm))
      · refine ⟨hb.1, by simp [World.setCell]; omega, ?_⟩
        rcases hat with hat | hat
        · have h2 := hb.2.2
          rw [hat] at h2
          simpa [Value.ownBlock] using h2
        · simp [Value.ownBlock]; omega
    · obtain rfl : c = d := by simpa using hc
      have hov : ∀ b, (Value.slice adr ds.length cap).ownBlock = some b → b < wr.heap.size := fun b hb => (h.own.lt b hb).2
      refine (hd.keep fun b o hb => ?_).mono fun b hb => ?_
      · rw [far b (by omega)]
        refine World.cell?_of_block (w := w2) (a := ⟨b, o, none⟩) ?_
        show w3.heap[b]? = _
        rw [hg.block b (by simp; omega) (fun e => by have := hov b e.symm; omega), Below.heap_alloc w2 Y b (by omega)]
      · refine ⟨by omega, by simp [World.setCell]; omega, ?_⟩
        rcases hat with hat | hat
        · have := hov gg hat
          simp [Value.ownBlock]; omega
        · simp [Value.ownBlock]; omega
end Go.Proofs.Ytbjadcanfngijaa
