/- An expression as it lies in memory: the tree with the addresses of its lists; it stays where nothing below its blocks turns. -/
import Derived.Test.YtbjadcanfngijaaEq
import Derived.Test.YtbjadcanfngijaaPlain
namespace Go.Proofs.Ytbjadcanfngijaa
open Go.RowKit

structure WT where
  kind : Int
  inp : Int
  neg : Bool
  adr : Option Addr
  cap : Nat
  args : List WT

namespace WT
theorem ind {p : WT → Prop} (h : ∀ t : WT, (∀ c ∈ t.args, p c) → p t) : ∀ t, p t
  | ⟨k, i, n, d, e, a⟩ => h _ (fun c (_hc : c ∈ a) => ind h c)
termination_by t => SizeOf.sizeOf t
decreasing_by
  have := List.sizeOf_lt_of_mem _hc
  simp only [mk.sizeOf_spec]; omega

mutual
def strip : WT → Way
  | ⟨k, i, n, _, _, a⟩ => .mk k i n (strips a)
def strips : List WT → List Way
  | [] => []
  | a :: l => strip a :: strips l
end
theorem strips_map (l : List WT) : strips l = l.map strip := by
  induction l with
  | nil => rfl
  | cons a l ih => simp [strips, ih]
theorem strip_eq (t : WT) : t.strip = .mk t.kind t.inp t.neg (t.args.map strip) := by cases t; simp [strip, strips_map]

/-- the value that stands for it. -/
def agg (t : WT) : Value := .agg #[.int .i64 t.kind, .int .i64 t.inp, .bool t.neg, .slice t.adr t.args.length t.cap]

/-- it lies in w, all its lists below block B. -/
inductive In (w : World) (B : Nat) : WT → Prop
  | mk (t : WT) (here : 0 < t.args.length → ∃ b o, t.adr = some ⟨b, o, none⟩ ∧ b < B ∧ ∀ i (h : i < t.args.length),
      w.cell? ⟨b, o + i * 4, none⟩ = some (.int .i64 t.args[i].kind) ∧ w.cell? ⟨b, o + i * 4 + 1, none⟩ = some (.int .i64 t.args[i].inp) ∧
      w.cell? ⟨b, o + i * 4 + 2, none⟩ = some (.bool t.args[i].neg) ∧ w.cell? ⟨b, o + i * 4 + 3, none⟩ = some (.slice t.args[i].adr t.args[i].args.length t.args[i].cap))
      (below : ∀ c ∈ t.args, In w B c) : In w B t

theorem In.keep {w w' : World} {B : Nat} {t : WT} (h : In w B t) (hk : ∀ b o, b < B → w'.cell? ⟨b, o, none⟩ = w.cell? ⟨b, o, none⟩) : In w' B t := by
  induction h with
  | mk t here _ ih =>
    refine .mk t (fun h0 => ?_) ih
    obtain ⟨b, o, e, hb, hc⟩ := here h0
    refine ⟨b, o, e, hb, fun i hi => ?_⟩
    rw [hk b _ hb, hk b _ hb, hk b _ hb, hk b _ hb]
    exact hc i hi
theorem In.mono {w : World} {B B' : Nat} {t : WT} (h : In w B t) (hB : B ≤ B') : In w B' t := by
  induction h with
  | mk t here _ ih =>
    refine .mk t (fun h0 => ?_) ih
    obtain ⟨b, o, e, hb, hc⟩ := here h0
    exact ⟨b, o, e, by omega, hc⟩
theorem In.below_ {w w' : World} {B : Nat} {t : WT} (h : In w B t) (hb : Below B w w') : In w' B t := h.keep fun b o hlt => hb.cell (p := ⟨b, o, none⟩) hlt
theorem In.alloc {w : World} {B : Nat} {t : WT} (h : In w B t) (hB : B ≤ w.heap.size) (o : Obj) : In (w.alloc o) B t :=
  h.keep fun b i hlt => World.cell?_alloc_lt w o ⟨b, i, none⟩ (by show b < _; omega)
theorem In.drewN {w : World} {B : Nat} {t : WT} (h : In w B t) (n : Nat) : In (w.drewN n) B t := h.keep fun _ _ _ => rfl
theorem In.kid {w : World} {B : Nat} {t c : WT} (h : In w B t) (hc : c ∈ t.args) : In w B c := by cases h with | mk _ _ hb => exact hb c hc
theorem In.here {w : World} {B : Nat} {t : WT} (h : In w B t) {i : Nat} (hi : i < t.args.length) : ∃ b o, t.adr = some ⟨b, o, none⟩ ∧ b < B ∧
      w.cell? ⟨b, o + i * 4, none⟩ = some (.int .i64 t.args[i].kind) ∧ w.cell? ⟨b, o + i * 4 + 1, none⟩ = some (.int .i64 t.args[i].inp) ∧
      w.cell? ⟨b, o + i * 4 + 2, none⟩ = some (.bool t.args[i].neg) ∧ w.cell? ⟨b, o + i * 4 + 3, none⟩ = some (.slice t.args[i].adr t.args[i].args.length t.args[i].cap) := by
  cases h with | mk _ hh _ =>
  obtain ⟨b, o, e, hb, hc⟩ := hh (by omega)
  exact ⟨b, o, e, hb, hc i hi⟩
/-- every list of it is of a length that an int holds. -/
inductive Small : WT → Prop
  | mk (t : WT) (len : t.args.length ≤ 9223372036854775807) (below : ∀ c ∈ t.args, Small c) : Small t
theorem Small.len {t : WT} (h : Small t) : t.args.length ≤ 9223372036854775807 := by cases h with | mk _ l _ => exact l
theorem Small.kid {t c : WT} (h : Small t) (hc : c ∈ t.args) : Small c := by cases h with | mk _ _ b => exact b c hc
end WT

end Go.Proofs.Ytbjadcanfngijaa
