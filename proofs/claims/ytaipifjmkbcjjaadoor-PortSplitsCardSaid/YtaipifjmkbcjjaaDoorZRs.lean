/- A range over a function, where the iterator keeps its state in a cell that it has captured, and the loop's body always goes on: a law of this seat's own, over the library's laws for the parts of such a statement. -/
import Derived.RangeFuncOwn
import Derived.RangeFuncLeaves
import Derived.RangeFuncCalls
import Derived.RangeFuncBox
import Derived.Maps.AppendAt
namespace Go.Proofs.YtaipifjmkbcjjaaDoor
open Go Go.RowKit

section
variable {α : Type} {F : Fence} {n : Nat} {P : Program}

/-- The iterator hands all of some list to whatever loop goes on, and keeps its state in block Bs. -/
def GivesAll (F : Fence) (n : Nat) (P : Program) (g : Nat) (lb : Array Value) (encs : α → Array Value) (Bs N : Nat) (G : World → Prop) (S : List α → Prop) (w : World) : Prop :=
  ∀ (l : Nat) (J : List α → World → Prop), (∀ s W, J s W → G W) → (∀ s W W', J s W → W.grownBy W' (some Bs) → J s W') →
    (∀ pre x W1, J pre W1 → pre.length < N → YieldAt F (n - 1) P l (encs x) W1 fun e W' => e = .returned (.bool true) ∧ J (pre ++ [x]) W' ∧ W'.heap[Bs]? = W1.heap[Bs]?) →
    ∀ W, J [] W → W.heap[Bs]? = w.heap[Bs]? →
    CallsIn F n P g (#[.func (.yield l) #[] #[]] ++ lb) W fun e W' => (∃ v, e = .returned v) ∧ ∃ xs, S xs ∧ J xs W'

/-- Three blocks stand. -/
def Three (p q r : Nat) (W W' : World) : Prop := W'.heap[p]? = W.heap[p]? ∧ W'.heap[q]? = W.heap[q]? ∧ W'.heap[r]? = W.heap[r]?

theorem Three.trans {p q r : Nat} {A B C : World} (h : Three p q r A B) (k : Three p q r B C) : Three p q r A C := ⟨k.1.trans h.1, k.2.1.trans h.2.1, k.2.2.trans h.2.2⟩
theorem Three.refl (p q r : Nat) (A : World) : Three p q r A A := ⟨rfl, rfl, rfl⟩
theorem Three.grown {p q r : Nat} {A B : World} {row : Option Nat} (h : A.grownBy B row) (hp : p < A.heap.size ∧ row ≠ some p) (hq : q < A.heap.size ∧ row ≠ some q) (hr : r < A.heap.size ∧ row ≠ some r) : Three p q r A B :=
  ⟨h.block p hp.1 (fun e => hp.2 e.symm), h.block q hq.1 (fun e => hq.2 e.symm), h.block r hr.1 (fun e => hr.2 e.symm)⟩

/-- How a round's body must end. -/
def goesOn (Bs M : Nat) (I : World → Prop) (W : World) : Exit → Act → World → Prop
  | .normal, _, W' => Three Bs M (M + 1) W W' ∧ I W'
  | _, _, _ => False

theorem wpIn_range_state {g : Operand} {ps : Array Tmp} {assign body : Code} {Q : Exit → Act → World → Prop} {a : Act} {w : World}
    (hro : F.round = none) (h1 : 1 ≤ n) {gf : Nat} {lb : Array Value} (hg : a.eval g = .func (.func gf) #[] lb) (hFg : F.fn gf) (eg : ∀ args w, (callFunc gf args).run P w = .ok (.enter gf args) w)
    {encs : α → Array Value} {Bs N : Nat} {G : World → Prop} {S : List α → Prop} (hseq : GivesAll F (n - 1) P gf lb encs Bs N G S w) (hps : ∀ x, (encs x).size = ps.size) (hBs : Bs < w.heap.size)
    (I : List α → World → Prop) (hI : ∀ s W W' row, I s W → W.grownBy W' row → (∀ r, row = some r → r = Bs ∨ w.heap.size ≤ r ∧ r ≤ w.heap.size + 1) → I s W') (hIG : ∀ s W, I s W → G W) (h0 : I [] w)
    (hround : ∀ (pre : List α) (x : α) (W : World), I pre W → pre.length < N → w.heap.size + 1 < W.heap.size →
      assign.wpIn (F.inRound (w.heap.size + 1)) (n - 1 - 1) P (Exit.then (fun a1 W1 => Three Bs w.heap.size (w.heap.size + 1) W W1 ∧ ∀ W2, W1.grownBy W2 (some (w.heap.size + 1)) → body.wpIn (F.inRound (w.heap.size + 1)) (n - 1 - 1) P (goesOn Bs w.heap.size (I (pre ++ [x])) W2) a1 W2) (fun _ _ _ => False))
        { tmps := (ps.zip (encs x)).foldl (fun t (p, v) => t.setIfInBounds p v) a.tmps, defers := [] } W)
    (hdone : ∀ (xs : List α) (W : World), S xs → I xs W → W.heap[w.heap.size]? = some (.deferred (some [])) → Q .normal { a with defers := { target := .collected w.heap.size, args := #[] } :: a.defers } W) :
    (Code.rangeFunc g ps assign body).wpIn F n P Q a w := by
  refine wpIn_rangeFunc fun fn hfn => ?_
  rw [hro]
  -- the loop's record in its three states
  let rec0 : Loop := { state := .ready, pending := none, fn, tmps := a.tmps, params := ps, assign, body, defers := w.heap.size }
  let w1 : World := (w.alloc (.deferred (some []))).alloc (.loop rec0)
  have hl1 : w1.heap[w.heap.size + 1]? = some (.loop rec0) := by
    have := World.alloc_heap_new (w.alloc (.deferred (some []))) (.loop rec0); rwa [World.size_alloc] at this
  have hd1 : w1.heap[w.heap.size]? = some (.deferred (some [])) := (Below.heap_alloc _ _ _ (by simp)).trans (World.alloc_heap_new w _)
  have hB1 : w1.heap[Bs]? = w.heap[Bs]? := (Below.heap_alloc _ _ _ (by simp; omega)).trans (Below.heap_alloc _ _ _ hBs)
  have g1 : w.grownBy w1 none := World.grownBy.trans (World.grownBy_alloc w _ _) (World.grownBy_alloc _ _ _)
  refine ⟨_, _, w1, { target := .fn (.func gf) lb, args := #[.func (.yield (w.heap.size + 1)) #[] #[]] }, w1, gf, #[.func (.yield (w.heap.size + 1)) #[] #[]] ++ lb, w1, run_enterLoop_outer _ _ _ _ _, ?_, ?_, ?_, fun _ => h1, ?_⟩
  · simp only [resolve, hg]; simp [go_sem]
  · intro f' hf'; simp [Target.leads] at hf'; subst hf'; exact hFg
  · simp [invoke, go_sem, eg]
  · let J : List α → World → Prop := fun s W => I s W ∧ W.heap[w.heap.size + 1]? = some (.loop rec0) ∧ W.heap[w.heap.size]? = some (.deferred (some []))
    refine (hseq (w.heap.size + 1) J (fun s W h => hIG s W h.1) ?_ ?_ w1 ⟨hI _ _ _ none h0 g1 (fun r e => by cases e), hl1, hd1⟩ hB1).mono ?_
    · rintro s W W' ⟨hi, hl, hd⟩ hgr
      have hlt : ∀ {k o}, W.heap[k]? = some o → k < W.heap.size := fun h => (Array.getElem?_eq_some_iff.1 h).1
      exact ⟨hI _ _ _ _ hi hgr (fun r e => .inl (by cases e; rfl)), (hgr.block _ (hlt hl) (by simp; omega)).trans hl, (hgr.block _ (hlt hd) (by simp; omega)).trans hd⟩
    · -- one round
      rintro pre x W ⟨hi, hl, hd⟩ hlen
      have hlt : w.heap.size + 1 < W.heap.size := (Array.getElem?_eq_some_iff.1 hl).1
      refine ⟨fn, _, assign, body, run_yield hl (hps x), roundIn_of_wpIn hfn (wpIn_mono (hround pre x W hi hlen hlt) ?_)⟩
      rintro e a1 W1 hp
      cases e with
      | normal =>
        obtain ⟨h3, hb⟩ := hp
        have hl' : W1.heap[w.heap.size + 1]? = some (.loop rec0) := h3.2.2.trans hl
        have hlt1 : w.heap.size + 1 < W1.heap.size := (Array.getElem?_eq_some_iff.1 hl').1
        refine ⟨_, run_beginRound hl' rfl, wpIn_mono (hb _ (grownBy_putObj' _ _ _)) ?_⟩
        rintro e a3 W3 hq
        cases e with
        | normal =>
          obtain ⟨⟨k1, k2, k3⟩, hi3⟩ := hq
          have hl3 : W3.heap[w.heap.size + 1]? = some (.loop { rec0 with state := .busy }) := k3.trans (World.putObj_heap_same hlt1)
          have hlt3 : w.heap.size + 1 < W3.heap.size := (Array.getElem?_eq_some_iff.1 hl3).1
          refine ⟨_, _, run_endRound none hl3, rfl, ⟨hI _ _ _ _ hi3 (grownBy_putObj' _ _ _) (fun r e => .inr (by cases e; omega)), World.putObj_heap_same hlt3, ?_⟩, ?_⟩
          · refine (World.putObj_heap_other (by omega)).trans (k2.trans ((World.putObj_heap_other (by omega)).trans (h3.2.1.trans hd)))
          · exact (World.putObj_heap_other (by omega)).trans (k1.trans ((World.putObj_heap_other (by omega)).trans h3.1))
        | _ => exact hq.elim
      | _ => exact hp.elim
    · -- behind the iterator
      rintro e W2 ⟨⟨v, rfl⟩, xs, hS, hi, hl, hd⟩
      exact ⟨none, _, run_endLoop hl (by simp [rec0]), hdone xs _ hS (hI _ _ _ _ hi (grownBy_putObj' _ _ _) (fun r e => .inr (by cases e; omega))) ((World.putObj_heap_other (by omega)).trans hd)⟩
end
end Go.Proofs.YtaipifjmkbcjjaaDoor
