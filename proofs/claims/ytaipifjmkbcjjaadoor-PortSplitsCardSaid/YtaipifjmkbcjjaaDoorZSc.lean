/- Walks: a stream, scanned. -/
import Derived.Test.YtaipifjmkbcjjaaDoorZFd
import Derived.Test.YtaipifjmkbcjjaaDoorZT
namespace Go.Proofs.YtaipifjmkbcjjaaDoor
open Go.RowKit Go.Shelf Go.Sort
attribute [local go_sem] Oper.semAt_some

def framesOf (xs : List (Fr × Nat)) : List Fr := (xs.filter (fun x => decide ((1 : Int) < (x.2 : Int)))).map (·.1)
def junkOf (xs : List (Fr × Nat)) : Nat := (xs.filter (fun x => !decide ((1 : Int) < (x.2 : Int)))).length
def flat (fs : List Fr) : List Value := fs.flatMap (fun f => f.c.toList)
theorem flat_len (fs : List Fr) : (flat fs).length = fs.length * 4 := by
  induction fs with
  | nil => rfl
  | cons f fs ih => show (f.c.toList ++ flat fs).length = _; rw [List.length_append, ih]; simp; omega
theorem flat_snoc (fs : List Fr) (f : Fr) : flat (fs ++ [f]) = flat fs ++ f.c.toList := by simp [flat]
theorem framesOf_hit (pre : List (Fr × Nat)) (x : Fr × Nat) (h : (1 : Int) < x.2) : framesOf (pre ++ [x]) = framesOf pre ++ [x.1] := by simp [framesOf, h]
theorem framesOf_miss (pre : List (Fr × Nat)) (x : Fr × Nat) (h : ¬ (1 : Int) < x.2) : framesOf (pre ++ [x]) = framesOf pre := by simp [framesOf, h]
theorem junkOf_hit (pre : List (Fr × Nat)) (x : Fr × Nat) (h : (1 : Int) < x.2) : junkOf (pre ++ [x]) = junkOf pre := by simp [junkOf, h]
theorem junkOf_miss (pre : List (Fr × Nat)) (x : Fr × Nat) (h : ¬ (1 : Int) < x.2) : junkOf (pre ++ [x]) = junkOf pre + 1 := by simp [junkOf, h]
theorem framesOf_len (pre : List (Fr × Nat)) : (framesOf pre).length ≤ pre.length := by unfold framesOf; rw [List.length_map]; exact List.length_filter_le _ _
theorem junkOf_len (pre : List (Fr × Nat)) : junkOf pre ≤ pre.length := List.length_filter_le _ _

theorem Tr.info68 : (Tryd.prog.info? 68).map (fun i => (i.zero, i.size, i.bytes)) = some (some fr0.v, 4, 32) := by kernel_rfl

theorem cells_new (w : World) (xs : Array Value) (t : TypeId) : ∀ j u, xs.toList[j]? = some u → (w.alloc (.cells xs t)).cell? ((⟨w.heap.size, 0, none⟩ : Addr).add j) = some u := by
  intro j u hj
  have h := (Bl.new w xs t).cell j
  have e : (⟨w.heap.size, 0, none⟩ : Addr).add j = ⟨w.heap.size, j, none⟩ := by rcases j with _ | j <;> simp [Addr.add]
  rw [e, h]; simpa using hj

theorem some_ne {a b : Nat} (h : a ≠ b) : some a ≠ some b := fun e => h (Option.some.inj e)

/-- What the loop keeps. -/
def scanI (w : World) (pre : List (Fr × Nat)) (W : World) : Prop :=
  (∃ v, Boxed W w.heap.size 74 v ∧ W.ownsRow (w.heap.size + 5) 68 4 v (framesOf pre).length (flat (framesOf pre))) ∧ Boxed W (w.heap.size + 1) 3 (.int .i64 (junkOf pre)) ∧ Below w.heap.size w W

theorem scanI_kept {w : World} {pre : List (Fr × Nat)} {W W' : World} {row : Option Nat} (h : scanI w pre W) (hg : W.grownBy W' row) (hr : ∀ r, row = some r → w.heap.size + 2 ≤ r ∧ r < w.heap.size + 5) : scanI w pre W' := by
  obtain ⟨⟨v, hv, hrow⟩, hj, hb⟩ := h
  refine ⟨⟨v, hv.kept hg ?_, hrow.kept hg ?_⟩, hj.kept hg ?_, hb.grown hg hb.size (fun k e => by have := hr k e; omega)⟩
  · intro e; have := hr _ e.symm; omega
  · cases ho : v.ownBlock with
    | none => left; rfl
    | some b => right; intro e; have h1 := (hrow.lt b ho).1; have := hr _ e.symm; omega
  · intro e; have := hr _ e.symm; omega

set_option maxRecDepth 100000 in
set_option maxHeartbeats 4000000 in
theorem scan_in (n : Nat) (L : List UInt8) (hm : L.length ≤ 1000000) (w : World) (hg : Glob w) (hn : 3 ≤ n) :
    CallsIn Fence.wide n Tryd.prog 45 #[.string (bs L)] w fun e W' => ∃ v, e = .returned (.tuple #[v, .int .i64 (junkOf (items L))]) ∧
      W'.ownsRow (w.heap.size + 5) 68 4 v (framesOf (items L)).length (flat (framesOf (items L))) ∧ Below w.heap.size w W' := by
  have h1 : 1 ≤ n := by omega
  obtain ⟨i0, hi, hz0, hz1, hz2⟩ := info_parts Tr.info68
  refine callsIn_of_wp_marks Tryd.func45 rfl trivial ?_ rfl
  simp only [Tryd.ntmps45, List.size_toArray, List.length_cons, List.length_nil, Nat.reduceAdd, Nat.reduceSub, Array.replicate_succ, Array.replicate_zero, List.push_toArray, List.append_toArray, List.nil_append, List.cons_append]
  gi_wp2_with (refine ⟨trivial, ?_⟩; gi_at_call 76; refine (callsIn_wide.2 (found_any _ _)).mono ?_; rintro e w' ⟨rfl, rfl⟩)
  have bO := ((Boxed.new w 74 (.slice none 0 0)).alloc (.cells #[.int .i64 0] 3)).alloc (.cells #[.string (bs L)] 9)
  have bG := (Boxed.new (w.alloc (.cells #[.slice none 0 0] 74)) 3 (.int .i64 0)).alloc (.cells #[.string (bs L)] 9)
  have bS := Boxed.new ((w.alloc (.cells #[.slice none 0 0] 74)).alloc (.cells #[.int .i64 0] 3)) 9 (.string (bs L))
  simp only [World.size_alloc] at bG bS
  have hB0 : Below w.heap.size w (((w.alloc (.cells #[.slice none 0 0] 74)).alloc (.cells #[.int .i64 0] 3)).alloc (.cells #[.string (bs L)] 9)) := (((Below.refl _ w).alloc (Nat.le_refl _) _).alloc (by simp) _).alloc (by simp; omega) _
  have hz0' : (((w.alloc (.cells #[.slice none 0 0] 74)).alloc (.cells #[.int .i64 0] 3)).alloc (.cells #[.string (bs L)] 9)).heap.size = w.heap.size + 3 := by simp only [World.size_alloc]
  generalize ((w.alloc (.cells #[.slice none 0 0] 74)).alloc (.cells #[.int .i64 0] 3)).alloc (.cells #[.string (bs L)] 9) = W0 at *
  refine wpIn_range_state (Bs := w.heap.size + 2) rfl h1 (gf := 88) (lb := #[.pointer (some ⟨w.heap.size + 2, 0, none⟩)]) rfl trivial (enters_of Tryd.func88 (by kernel_rfl) rfl)
    (found_gives (n - 1) (w.heap.size + 2) L (by unfold maxLen; omega) W0 bS) (fun _ => rfl) (by omega) (scanI w) ?abides ?glob ?start ?round ?done
  case abides =>
    intro pre W W' row hI hg hr
    refine scanI_kept hI hg (fun r e => ?_)
    rcases hr r e with h | h <;> omega
  case glob => exact fun pre W h => hg.next h.2.2
  case start => exact ⟨⟨_, bO, World.ownsRow_nil _ _ _ _⟩, bG, hB0⟩
  case round =>
    rintro pre ⟨f, m⟩ W hI hlt hsz
    have hWs : W0.heap.size + 1 < W.heap.size := hsz
    gi_wp2
    refine ⟨Three.grown (World.grownBy_alloc W _ none) ⟨by omega, by simp⟩ ⟨by omega, by simp⟩ ⟨by omega, by simp⟩, fun W2 hW2 => ?_⟩
    have hI2 : scanI w pre W2 := scanI_kept (scanI_kept hI (World.grownBy_alloc W _ none) (fun r e => by cases e)) hW2 (fun r e => by cases e; omega)
    have HF := Lib.hid (Bl.grown (Bl.new W f.c 68) hW2 (by simp; omega))
    have hW2s : W.heap.size + 1 ≤ W2.heap.size := by have := hW2.size; simpa using this
    clear hI hW2
    obtain ⟨⟨v, hv, hrow⟩, hj, hb⟩ := hI2
    have hfl := framesOf_len pre
    have hc0 := hv.cell
    have hc1 := HF.out.cell
    have hc2 := hj.cell
    have hf2 := hj.frozen
    have hneB : ∀ p, p < w.heap.size + 5 → v.ownBlock ≠ some p := fun p hp e => by have := (hrow.lt p e).1; omega
    have hne : some w.heap.size ≠ v.ownBlock := fun e => hneB _ (by omega) e.symm
    by_cases hmm : (1 : Int) < (m : Int)
    · have hd : decide ((1 : Int) < (m : Int)) = true := by simpa using hmm
      gi_wp2_with (gi_at_builtin; refine wpListIn_append_own _ rfl _ _ 74 rfl (w.heap.size + 5) 68 i0 fr0.v 4 32 Tryd.underlying74 hi hz0 hz1 hz2 rfl (by decide) _ _ _ rfl (hrow.alloc _) ⟨W2.heap.size, 0, none⟩ 1 1 f.c.toList rfl rfl (cells_new _ _ _) (by simp [Value.oneCell']) (by unfold maxLen; omega) (by omega) (by simp; omega) ?_; intro v' w1 hown' hgrow0 _; have hgrow : (W2.alloc (.cells f.c 68)).grownBy w1 v.ownBlock := hgrow0; clear hgrow0; obtain ⟨g', cap', rfl⟩ := ownsRow_succ hown'; have hvw := (hv.alloc (.cells f.c 68)).kept hgrow hne; have hc1' := hvw.cell; have hf1' := hvw.frozen)
      have hall := World.grownBy.trans (World.grownBy_alloc W2 (.cells f.c 68) _) hgrow
      have hst := hall.size
      refine ⟨(Three.grown hall ⟨by omega, hneB _ (by omega)⟩ ⟨by omega, hneB _ (by omega)⟩ ⟨by omega, hneB _ (by omega)⟩).trans (Three.grown (grownBy_setCell' _ _ _) ⟨by omega, some_ne (by omega)⟩ ⟨by omega, some_ne (by omega)⟩ ⟨by omega, some_ne (by omega)⟩), ⟨_, Boxed.set _ hvw, ?_⟩, ?_, ?_⟩
      · rw [framesOf_hit pre _ hmm, flat_snoc, List.length_append]
        refine hown'.kept (grownBy_setCell' _ _ _) (.inr ?_)
        intro e
        have := (hown'.lt g' rfl).1
        simp [Value.ownBlock] at e; omega
      · rw [junkOf_hit pre _ hmm]
        exact (hj.kept hall (fun e => hneB _ (by omega) e.symm)).kept (grownBy_setCell' _ _ _) (by simp)
      · exact (hb.grown hall hb.size (fun k e => by have := (hrow.lt k e).1; omega)).setCell (Nat.le_refl _) _
    · have hd : decide ((1 : Int) < (m : Int)) = false := by simpa using hmm
      have hjl := junkOf_len pre
      gi_wp2
      refine ⟨Three.grown (grownBy_setCell' _ _ _) ⟨by omega, some_ne (by omega)⟩ ⟨by omega, some_ne (by omega)⟩ ⟨by omega, some_ne (by omega)⟩, ⟨v, hv.kept (grownBy_setCell' _ _ _) (some_ne (by omega)), ?_⟩, ?_, hb.setCell (by show _ ≤ w.heap.size + 1; omega) _⟩
      · rw [framesOf_miss pre (f, m) (show ¬ (1 : Int) < (m : Int) by omega)]
        refine hrow.kept (grownBy_setCell' _ _ _) ?_
        cases ho : v.ownBlock with
        | none => left; rfl
        | some b => right; intro e; exact hneB _ (by omega) (ho.trans e)
      · rw [junkOf_miss pre (f, m) (show ¬ (1 : Int) < (m : Int) by omega), Int.natCast_add]
        exact Boxed.set _ hj
  case done =>
    rintro xs W rfl ⟨⟨v, hv, hrow⟩, hj, hb⟩ hK
    have hc0 := hv.cell
    have hc2 := hj.cell
    gi_wp2
    gi_region
    all_goals gi_wp2
    have g : W.grownBy (W.drew.putObj W0.heap.size (.deferred none)) (some W0.heap.size) :=
      ⟨rfl, rfl, rfl, (grownBy_putObj' W.drew _ _).size, (grownBy_putObj' W.drew W0.heap.size (.deferred none)).block⟩
    refine ⟨by simp, .inl ⟨_, _, rfl, run_takeDeferred (w := W.drew) hK, ?_⟩⟩
    refine ⟨.tuple #[v, .int .i64 (junkOf (items L))], by simp [results, Tryd.results45, go_sem], v, rfl, hrow.kept g ?_, hb.grown g hb.size (fun k e => by cases e; omega)⟩
    cases ho : v.ownBlock with
    | none => left; rfl
    | some b => right; intro e; have h1 := (hrow.lt b ho).1; cases e; omega
/-- What 'Scan' answers. -/
theorem scan_any (L : List UInt8) (hm : L.length ≤ 1000000) (w : World) (hg : Glob w) :
    Calls Tryd.prog 45 #[.string (bs L)] w fun e W' => ∃ v, e = .returned (.tuple #[v, .int .i64 (junkOf (items L))]) ∧
      W'.ownsRow (w.heap.size + 5) 68 4 v (framesOf (items L)).length (flat (framesOf (items L))) ∧ Below w.heap.size w W' :=
  callsIn_wide.1 (scan_in 3 L hm w hg (Nat.le_refl _))

end Go.Proofs.YtaipifjmkbcjjaaDoor
