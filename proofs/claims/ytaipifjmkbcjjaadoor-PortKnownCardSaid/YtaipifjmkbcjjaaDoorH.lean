/- Walks: the readers of forms. -/
import Derived.Test.YtaipifjmkbcjjaaDoorG
namespace Go.Proofs.YtaipifjmkbcjjaaDoor
open Go.RowKit Go.Sort

/-- A reader of three cells in block b. -/
def Rd (T : TypeId) (b : Nat) (s : ByteArray) (p : Nat) (ok : Bool) (w : World) : Prop := w.heap[b]? = some (.cells #[.string s, .int .i64 p, .bool ok] T (0, 0))

theorem Rd.c0 {T b s p ok w} (h : Rd T b s p ok w) : w.cell? ⟨b, 0, none⟩ = some (.string s) := by unfold Rd at h; simp [World.cell?, h]
theorem Rd.c1 {T b s p ok w} (h : Rd T b s p ok w) : w.cell? ⟨b, 1, none⟩ = some (.int .i64 p) := by unfold Rd at h; simp [World.cell?, h]
theorem Rd.c2 {T b s p ok w} (h : Rd T b s p ok w) : w.cell? ⟨b, 2, none⟩ = some (.bool ok) := by unfold Rd at h; simp [World.cell?, h]
theorem Rd.fr {T b s p ok w} (h : Rd T b s p ok w) (o : Nat) : w.frozen? ⟨b, o, none⟩ = false := by unfold Rd at h; simp [World.frozen?, h]
theorem Rd.lt {T b s p ok w} (h : Rd T b s p ok w) : b < w.heap.size := by
  unfold Rd at h
  rcases Nat.lt_or_ge b w.heap.size with h' | h'
  · exact h'
  · simp [Array.getElem?_eq_none h'] at h
theorem Rd.below {T b s p ok w w'} {B : Nat} (h : Rd T b s p ok w) (hb : Below B w w') (hB : b < B) : Rd T b s p ok w' := (hb.block b hB).trans h
theorem Rd.setOk {T b s p ok w} (h : Rd T b s p ok w) (v : Bool) : Rd T b s p v (w.setCell ⟨b, 2, none⟩ (.bool v)) := by
  unfold Rd at *
  simp [World.setCell, Array.getElem?_modify, h]
theorem Rd.setP {T b s p ok w} (h : Rd T b s p ok w) (q : Nat) : Rd T b s q ok (w.setCell ⟨b, 1, none⟩ (.int .i64 q)) := by
  unfold Rd at *
  simp [World.setCell, Array.getElem?_modify, h]
theorem grown_set {w : World} {b o : Nat} {v : Value} : w.grownBy (w.setCell ⟨b, o, none⟩ v) (some b) :=
  ⟨rfl, rfl, rfl, by simp [World.setCell], fun k _ hk => Below.heap_setCell _ _ _ _ (by intro h; exact hk (by rw [h]))⟩
theorem grown_trans {a b c : World} {r : Option Nat} (h : a.grownBy b r) (k : b.grownBy c r) : a.grownBy c r :=
  ⟨k.os.trans h.os, k.tape.trans h.tape, k.output.trans h.output, Nat.le_trans h.size k.size, fun i hi hr => (k.block i (Nat.lt_of_lt_of_le hi h.size) hr).trans (h.block i hi hr)⟩
theorem grown_below {w w' : World} {r : Option Nat} (h : Below w.heap.size w w') : w.grownBy w' r :=
  ⟨h.os, h.tape, h.output, h.size, fun k hk _ => h.block k hk⟩
theorem grown_draw {w : World} {r : Option Nat} (n : Nat) : w.grownBy (w.drewN n) r := ⟨rfl, rfl, rfl, Nat.le_refl _, fun _ _ _ => rfl⟩

set_option maxHeartbeats 400000 in
theorem rune_no (b : Nat) (s of : ByteArray) (p : Nat) (ok : Bool) (w : World) (_hs : s.size ≤ maxLen) (hR : Rd 104 b s p ok w) (h : ok = false ∨ s.size ≤ p) :
    Calls Tryd.prog 70 #[.pointer (some ⟨b, 0, none⟩), .string of] w fun e w' => e = .returned (.int .i64 0) ∧ Rd 104 b s p false w' ∧ w.grownBy w' (some b) := by
  unfold maxLen at _hs
  have c0 := hR.c0
  have c1 := hR.c1
  have c2 := hR.c2
  have f2 := hR.fr 2
  cases ok with
  | false =>
    go_enter Tryd.func70, Tryd.ntmps70
    go_wp2
    go_quiet (fail)
    go_wp2
    go_ret
    exact ⟨rfl, Rd.setOk (w := w.drewN nq) (by exact hR) false, grown_trans (grown_draw nq) grown_set⟩
  | true =>
    have h : s.size ≤ p := by simpa using h
    go_enter Tryd.func70, Tryd.ntmps70
    go_wp2
    go_quiet (fail)
    go_wp2
    go_ret
    exact ⟨rfl, Rd.setOk (w := w.drewN nq) (by exact hR) false, grown_trans (grown_draw nq) grown_set⟩

set_option maxHeartbeats 400000 in

set_option maxHeartbeats 400000 in
theorem rune_at (b : Nat) (s of : ByteArray) (p : Nat) (c : UInt8) (w : World) (hs : s.size ≤ maxLen) (ho : of.size ≤ maxLen) (ha : ∀ k (h : k < of.size), (of[k]'h).toNat < 128) (hR : Rd 104 b s p true w) (hp : p < s.size) (hc : s[p] = c)
    (r : Int) (p' : Nat) (ok' : Bool) (hres : (r, p', ok') = if ixI of.data.toList (bn c) 0 < 0 then (0, p, false) else (ixI of.data.toList (bn c) 0, p + 1, true)) :
    Calls Tryd.prog 70 #[.pointer (some ⟨b, 0, none⟩), .string of] w fun e w' => e = .returned (.int .i64 r) ∧ Rd 104 b s p' ok' w' ∧ w.grownBy w' (some b) := by
  have Hres := Lib.hid hres
  clear hres
  have c0 := hR.c0
  have c1 := hR.c1
  have c2 := hR.c2
  have Hrun : Hid (∀ w, Calls Tryd.prog 84 #[.string of, .int .i32 (bn c)] w fun e w' => e = .returned (.int .i64 (ixI of.data.toList (bn c) 0)) ∧ Below w.heap.size w w') := fun w => runeAt_any of (bn c) w ho ha
  generalize ixI of.data.toList (bn c) 0 = ix at *
  unfold maxLen at hs
  have HC := Lib.hid hc
  clear hc
  go_enter Tryd.func70, Tryd.ntmps70
  go_wp2
  go_quiet (fail)
  go_wp2
  have hR' : Rd 104 b s p true (w.drewN nq) := hR
  have hgr : w.grownBy (w.drewN nq) (some b) := grown_draw nq
  clear c0 c1 c2
  generalize w.drewN nq = W at *
  have k0 := cell_regrown hR'.c0
  have k1 := cell_regrown hR'.c1
  have cR : ∀ d os, Calls Tryd.prog 84 #[.string of, .int .i32 (bn c)] (grow (redrawn W d) os) fun e w'' => e = .returned (.int .i64 ix) ∧ ∃ p : Regrown, w'' = grow (redrawn W p.d) p.os :=
    fun d os => Calls.regrown_of (Hrun.out _)
  have hc := HC.out
  have hwr : IntKind.i32.wrap (c.toNat : Int) = bn c := by
    have := c.toNat_lt
    rw [IntKind.wrap_i32]; unfold bn; omega
  refine wp_region_quiet_below (by kernel_rfl) (by kernel_rfl) ?_
  repeat (quiet_step (exact cR _ _))
  clear hc hwr
  refine wpQuiet_nil ?_
  intro _ hw'
  obtain ⟨⟨dq, osq⟩, hw''⟩ := hw'
  subst hw''
  have hR2 : Rd 104 b s p true (grow (redrawn W dq) osq) := hR'.below (below_regrown W dq osq) hR'.lt
  have hgr2 : w.grownBy (grow (redrawn W dq) osq) (some b) := grown_trans hgr (grown_below (below_regrown W dq osq))
  clear k0 k1 cR hR' hgr
  generalize grow (redrawn W dq) osq = W2 at *
  have c1 := hR2.c1
  have f1 := hR2.fr 1
  have f2 := hR2.fr 2
  have c2 := hR2.c2
  have hlt := hR2.lt
  by_cases hneg : ix < 0
  · go_wp2
    go_ret
    have hres := Hres.out
    rw [if_pos hneg] at hres
    simp only [Prod.mk.injEq] at hres
    obtain ⟨rfl, rfl, rfl⟩ := hres
    exact ⟨rfl, hR2.setOk false, grown_trans hgr2 grown_set⟩
  · go_wp2
    go_ret
    have hres := Hres.out
    rw [if_neg (by omega)] at hres
    simp only [Prod.mk.injEq] at hres
    obtain ⟨rfl, rfl, rfl⟩ := hres
    exact ⟨rfl, hR2.setP (p + 1), grown_trans hgr2 grown_set⟩


/-- Reading one of some letters: its number, where it has come, whether all is well. -/
def rdS (s of : List UInt8) (p : Nat) (ok : Bool) : Int × Nat × Bool :=
  if ok = false ∨ s.length ≤ p then (0, p, false) else if ixI of (bn (s.getD p 0)) 0 < 0 then (0, p, false) else (ixI of (bn (s.getD p 0)) 0, p + 1, true)

theorem rune_any (b : Nat) (s of : ByteArray) (p : Nat) (ok : Bool) (w : World) (hs : s.size ≤ maxLen) (ho : of.size ≤ maxLen) (ha : ∀ k (h : k < of.size), (of[k]'h).toNat < 128) (hR : Rd 104 b s p ok w) :
    Calls Tryd.prog 70 #[.pointer (some ⟨b, 0, none⟩), .string of] w fun e w' => e = .returned (.int .i64 (rdS s.data.toList of.data.toList p ok).1) ∧
      Rd 104 b s (rdS s.data.toList of.data.toList p ok).2.1 (rdS s.data.toList of.data.toList p ok).2.2 w' ∧ w.grownBy w' (some b) := by
  have hl : s.data.toList.length = s.size := by simp
  by_cases h : ok = false ∨ s.size ≤ p
  · simp only [rdS, hl, if_pos h]
    exact rune_no b s of p ok w hs hR h
  · have h' := h
    simp only [not_or, Bool.not_eq_false, Nat.not_le] at h'
    obtain ⟨rfl, hp⟩ := h'
    refine rune_at b s of p (s[p]'hp) w hs ho ha hR hp rfl _ _ _ ?_
    rw [← byte_at s p hp]
    simp only [rdS, hl, if_neg h]

end Go.Proofs.YtaipifjmkbcjjaaDoor
