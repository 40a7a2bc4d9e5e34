/- Walks: the readers of forms, on. -/
import Derived.Test.YtaipifjmkbcjjaaDoorZg0
import Derived.Test.YtaipifjmkbcjjaaDoorZShelf
namespace Go.Proofs.YtaipifjmkbcjjaaDoor
open Go.RowKit Go.Sort

/-- A decimal digit. -/
def isDig (b : UInt8) : Bool := decide (0 ≤ Lib.indexByte [48, 49, 50, 51, 52, 53, 54, 55, 56, 57] b)

theorem digs10 : ({ data := #[48, 49, 50, 51, 52, 53, 54, 55, 56, 57, 97, 98, 99, 100, 101, 102] } : ByteArray).extract 0 10 = bs [48, 49, 50, 51, 52, 53, 54, 55, 56, 57] := by decide

set_option maxHeartbeats 400000 in
theorem more_no (b : Nat) (s : ByteArray) (p : Nat) (ok : Bool) (w : World) (_hs : s.size ≤ maxLen) (hR : Rd 104 b s p ok w) (h : ok = false ∨ s.size ≤ p) :
    Calls Tryd.prog 85 #[.pointer (some ⟨b, 0, none⟩)] w fun e w' => e = .returned (.bool false) ∧ ∃ n, w' = w.drewN n := by
  unfold maxLen at _hs
  have c0 := hR.c0
  have c1 := hR.c1
  have c2 := hR.c2
  cases ok with
  | false =>
    go_enter Tryd.func85, Tryd.ntmps85
    go_wp2
    go_quiet (fail)
    go_wp2
    go_ret
    exact ⟨rfl, _, rfl⟩
  | true =>
    have h : s.size ≤ p := by simpa using h
    have h' : decide (p < s.size) = false := by simpa using h
    go_enter Tryd.func85, Tryd.ntmps85
    go_wp2
    go_quiet (fail)
    go_wp2
    go_ret
    exact ⟨rfl, _, rfl⟩

set_option maxHeartbeats 400000 in
theorem more_at (b : Nat) (s : ByteArray) (p : Nat) (c : UInt8) (w : World) (_hs : s.size ≤ maxLen) (hR : Rd 104 b s p true w) (hp : p < s.size) (hc : s[p] = c) :
    Calls Tryd.prog 85 #[.pointer (some ⟨b, 0, none⟩)] w fun e w' => e = .returned (.bool (isDig c)) ∧ ∃ n, w' = w.drewN n := by
  have c0 := hR.c0
  have c1 := hR.c1
  have c2 := hR.c2
  unfold maxLen at _hs
  have hd : decide (p < s.size) = true := by simpa using hp
  have he := digs10
  have hi : ∀ n, Calls Tryd.prog 92 #[.string (bs [48, 49, 50, 51, 52, 53, 54, 55, 56, 57]), .int .u8 c.toNat] (w.drewN n) fun e w' => e = .returned (.int .i64 (Lib.indexByte [48, 49, 50, 51, 52, 53, 54, 55, 56, 57] c)) ∧ w' = w.drewN n := fun n => by
    have h := Tryd.strings_IndexByte (bs [48, 49, 50, 51, 52, 53, 54, 55, 56, 57]) c.toNat (w.drewN n)
    rw [bs_list] at h
    simpa using h
  go_enter Tryd.func85, Tryd.ntmps85
  go_wp2
  go_quiet ((go_at_call 92; exact Calls.quiet_of_same (hi _)))
  go_wp2
  go_ret
  exact ⟨rfl, _, rfl⟩

/-- Whether a digit comes next. -/
def moreS (s : List UInt8) (p : Nat) (ok : Bool) : Bool := ok && decide (p < s.length) && isDig (s.getD p 0)

theorem more_any (b : Nat) (s : ByteArray) (p : Nat) (ok : Bool) (w : World) (hs : s.size ≤ maxLen) (hR : Rd 104 b s p ok w) :
    Calls Tryd.prog 85 #[.pointer (some ⟨b, 0, none⟩)] w fun e w' => e = .returned (.bool (moreS s.data.toList p ok)) ∧ ∃ n, w' = w.drewN n := by
  have hl : s.data.toList.length = s.size := by simp
  by_cases h : ok = false ∨ s.size ≤ p
  · have e : moreS s.data.toList p ok = false := by
      unfold moreS; rw [hl]
      rcases h with h | h
      · rw [h]; rfl
      · rw [decide_eq_false (by omega)]; simp
    rw [e]; exact more_no b s p ok w hs hR h
  · simp only [not_or, Bool.not_eq_false, Nat.not_le] at h
    obtain ⟨rfl, hp⟩ := h
    have e : moreS s.data.toList p true = isDig s[p] := by
      unfold moreS; rw [hl, decide_eq_true hp, byte_at s p hp]; rfl
    rw [e]; exact more_at b s p _ w hs hR hp rfl

end Go.Proofs.YtaipifjmkbcjjaaDoor

/- Walks: a number of a form. -/
namespace Go.Proofs.YtaipifjmkbcjjaaDoor
open Go.RowKit Go.Sort

abbrev digL : List UInt8 := [48, 49, 50, 51, 52, 53, 54, 55, 56, 57]

theorem ixI_bound (l : List UInt8) (n : Int) : ∀ i : Int, ixI l n i = -1 ∨ (i ≤ ixI l n i ∧ ixI l n i < i + l.length) := by
  induction l with
  | nil => intro i; left; rfl
  | cons c l ih =>
    intro i
    simp only [ixI, List.length_cons]
    split
    · right; omega
    · rcases ih (i + 1) with h | h
      · left; exact h
      · right; omega

theorem rdS_bound (s of : List UInt8) (p : Nat) (ok : Bool) : 0 ≤ (rdS s of p ok).1 ∧ (rdS s of p ok).1 < of.length + 1 ∧ p ≤ (rdS s of p ok).2.1 ∧ ((rdS s of p ok).2.1 ≤ p + 1) ∧ (p ≤ s.length → (rdS s of p ok).2.1 ≤ s.length) := by
  unfold rdS
  split
  · simp
  · rename_i h
    have hb := ixI_bound of (bn (s.getD p 0)) 0
    split
    · simp
    · simp only [not_or] at h
      refine ⟨?_, ?_, ?_, ?_, ?_⟩ <;> simp only [] <;> omega

/-- A number of one or two digits. -/
def numS (s : List UInt8) (p : Nat) (ok : Bool) : Int × Nat × Bool :=
  let r := rdS s digL p ok
  if 0 < r.1 ∧ moreS s r.2.1 r.2.2 = true then
    let q := rdS s digL r.2.1 r.2.2
    (10 * r.1 + q.1, q.2.1, q.2.2)
  else r

set_option maxHeartbeats 400000 in
theorem number_any (b : Nat) (s : ByteArray) (p : Nat) (ok : Bool) (w : World) (hs : s.size ≤ maxLen) (hR : Rd 104 b s p ok w) :
    Calls Tryd.prog 71 #[.pointer (some ⟨b, 0, none⟩)] w fun e w' => e = .returned (.int .i64 (numS s.data.toList p ok).1) ∧
      Rd 104 b s (numS s.data.toList p ok).2.1 (numS s.data.toList p ok).2.2 w' ∧ w.grownBy w' (some b) := by
  have he := digs10
  have ha : ∀ k (h : k < (bs digL).size), ((bs digL)[k]'h).toNat < 128 := by
    have : ∀ c ∈ digL, c.toNat < 128 := by decide
    intro k h
    exact this _ (by have := Array.getElem_mem_toList (xs := (bs digL).data) h; rwa [bs_list] at this)
  have hm : (bs digL).size ≤ maxLen := by rw [bs_size]; unfold maxLen; simp
  have hb1 := rdS_bound s.data.toList digL p ok
  have hl : (digL.length : Int) = 10 := rfl
  have Hn : Hid (numS s.data.toList p ok = numS s.data.toList p ok) := rfl
  obtain ⟨n1, p1, ok1, hr1⟩ : ∃ n1 p1 ok1, rdS s.data.toList digL p ok = (n1, p1, ok1) := ⟨_, _, _, rfl⟩
  obtain ⟨n2, p2, ok2, hr2⟩ : ∃ n2 p2 ok2, rdS s.data.toList digL p1 ok1 = (n2, p2, ok2) := ⟨_, _, _, rfl⟩
  obtain ⟨m, hmo⟩ : ∃ m, moreS s.data.toList p1 ok1 = m := ⟨_, rfl⟩
  have hb2 := rdS_bound s.data.toList digL p1 ok1
  rw [hl, hr1] at hb1
  rw [hl, hr2] at hb2
  obtain ⟨n1a, n1b, -⟩ := hb1
  obtain ⟨n2a, n2b, -⟩ := hb2
  simp only [] at n1a n1b n2a n2b
  have H1 : Hid (Calls Tryd.prog 70 #[.pointer (some ⟨b, 0, none⟩), .string (bs digL)] w fun e w' => e = .returned (.int .i64 n1) ∧ Rd 104 b s p1 ok1 w' ∧ w.grownBy w' (some b)) := by
    have h1 := rune_any b s (bs digL) p ok w hs hm ha hR
    rw [bs_list, hr1] at h1
    exact h1
  have H2 : Hid (∀ w, Rd 104 b s p1 ok1 w → Calls Tryd.prog 70 #[.pointer (some ⟨b, 0, none⟩), .string (bs digL)] w fun e w' => e = .returned (.int .i64 n2) ∧ Rd 104 b s p2 ok2 w' ∧ w.grownBy w' (some b)) := by
    intro w hR
    have h1 := rune_any b s (bs digL) p1 ok1 w hs hm ha hR
    rw [bs_list, hr2] at h1
    exact h1
  have H3 : Hid (∀ w, Rd 104 b s p1 ok1 w → Calls Tryd.prog 85 #[.pointer (some ⟨b, 0, none⟩)] w fun e w' => e = .returned (.bool m) ∧ ∃ n, w' = w.drewN n) := by
    intro w hR
    have h1 := more_any b s p1 ok1 w hs hR
    rw [hmo] at h1
    exact h1
  have hnum : numS s.data.toList p ok = if 0 < n1 ∧ m = true then (10 * n1 + n2, p2, ok2) else (n1, p1, ok1) := by
    simp only [numS, hr1, hmo, hr2]
  rw [hnum]
  clear hr1 hr2 hmo ha hnum Hn
  by_cases hc : 0 < n1 ∧ m = true
  · rw [if_pos hc]
    obtain ⟨hc1, rfl⟩ := hc
    go_enter Tryd.func71, Tryd.ntmps71
    go_wp2_with fail
    refine H1.out.mono ?_
    rintro e w1 ⟨rfl, hR1, hg1⟩
    go_wp2_with fail
    refine (H3.out _ hR1).mono ?_
    rintro e w2 ⟨rfl, nq, rfl⟩
    go_wp2_with fail
    refine (H2.out (w1.drewN nq) hR1).mono ?_
    rintro e w3 ⟨rfl, hR3, hg3⟩
    go_wp2
    go_ret
    exact ⟨ret_int (by omega), hR3, grown_trans hg1 (grown_trans (grown_draw nq) hg3)⟩
  · rw [if_neg hc]
    by_cases hc1 : 0 < n1
    · have hm' : m = false := by simpa [hc1] using hc
      subst hm'
      go_enter Tryd.func71, Tryd.ntmps71
      go_wp2_with fail
      refine H1.out.mono ?_
      rintro e w1 ⟨rfl, hR1, hg1⟩
      go_wp2_with fail
      refine (H3.out _ hR1).mono ?_
      rintro e w2 ⟨rfl, nq, rfl⟩
      go_wp2
      go_ret
      exact ⟨rfl, hR1, grown_trans hg1 (grown_draw nq)⟩
    · go_enter Tryd.func71, Tryd.ntmps71
      go_wp2_with fail
      refine H1.out.mono ?_
      rintro e w1 ⟨rfl, hR1, hg1⟩
      go_wp2
      go_ret
      exact ⟨rfl, hR1, hg1⟩

end Go.Proofs.YtaipifjmkbcjjaaDoor

/- Walks: a form read. -/
namespace Go.Proofs.YtaipifjmkbcjjaaDoor
open Go.RowKit Go.Sort

/-- A block of cells. -/
def Bl (b : Nat) (cs : Array Value) (T : TypeId) (w : World) : Prop := w.heap[b]? = some (.cells cs T (0, 0))
theorem Bl.cell {b cs T w} (h : Bl b cs T w) (o : Nat) : w.cell? ⟨b, o, none⟩ = cs[o]? := by unfold Bl at h; simp [World.cell?, h]
theorem Bl.fr {b cs T w} (h : Bl b cs T w) (o : Nat) : w.frozen? ⟨b, o, none⟩ = false := by unfold Bl at h; simp [World.frozen?, h]
theorem Bl.lt {b cs T w} (h : Bl b cs T w) : b < w.heap.size := by
  unfold Bl at h
  rcases Nat.lt_or_ge b w.heap.size with h' | h'
  · exact h'
  · simp [Array.getElem?_eq_none h'] at h
theorem Bl.below {b cs T w w'} {B : Nat} (h : Bl b cs T w) (hb : Below B w w') (hB : b < B) : Bl b cs T w' := (hb.block b hB).trans h
theorem Bl.grown {b cs T w w'} {r : Option Nat} (h : Bl b cs T w) (hg : w.grownBy w' r) (hr : some b ≠ r) : Bl b cs T w' := (hg.block b h.lt hr).trans h
theorem Bl.set {b cs T w} (h : Bl b cs T w) (o : Nat) (v : Value) : Bl b (cs.setIfInBounds o v) T (w.setCell ⟨b, o, none⟩ v) := by
  unfold Bl at *
  simp [World.setCell, Array.getElem?_modify, h]
theorem Bl.other {b cs T w} (h : Bl b cs T w) (c o : Nat) (v : Value) (hc : b ≠ c) : Bl b cs T (w.setCell ⟨c, o, none⟩ v) := by
  unfold Bl at *
  rw [Below.heap_setCell _ _ _ _ hc]; exact h
theorem Bl.alloc {b cs T w} (h : Bl b cs T w) (o : Obj) : Bl b cs T (w.alloc o) := (Below.heap_alloc w o b h.lt).trans h
theorem Bl.new (w : World) (cs : Array Value) (T : TypeId) : Bl w.heap.size cs T (w.alloc (.cells cs T)) := by
  show (w.heap.push _)[w.heap.size]? = _
  simp
theorem Bl.drew {b cs T w} (h : Bl b cs T w) : Bl b cs T w.drew := h
theorem Bl.drewN {b cs T w} (h : Bl b cs T w) (n : Nat) : Bl b cs T (w.drewN n) := h
theorem Rd.bl {T b s p ok w} (h : Rd T b s p ok w) : Bl b #[.string s, .int .i64 p, .bool ok] T w := h

theorem asc_of {s : ByteArray} (h : s.data.toList.all (fun c => decide (c.toNat < 128)) = true) : ∀ k (h : k < s.size), (s[k]'h).toNat < 128 := by
  intro k hk
  have := List.all_eq_true.1 h (s[k]'hk) (Array.getElem_mem_toList (xs := s.data) hk)
  simpa using this

/-- What lies in memory while a form is read: the reader, the two results. -/
structure DV (B2 B3 br : Nat) (s : ByteArray) (p : Nat) (ok : Bool) (w0 w : World) : Prop where
  rd : Rd 104 br s p ok w
  r2 : Bl B2 #[.int .i64 0, .int .i64 0, .int .i64 0, .int .i64 0] 68 w
  r3 : Bl B3 #[.int .i64 0, .int .i64 0] 70 w
  bel : Below w0.heap.size w0 w
  n1 : w0.heap.size ≤ B2
  n2 : B2 < B3
  n3 : B3 < br

theorem DV.call {B2 B3 br s p ok w0 w w' p' ok'} (h : DV B2 B3 br s p ok w0 w) (hR : Rd 104 br s p' ok' w') (hg : w.grownBy w' (some br)) : DV B2 B3 br s p' ok' w0 w' :=
  ⟨hR, h.r2.grown hg (by have := h.n2; have := h.n3; intro e; cases e; omega), h.r3.grown hg (by have := h.n3; intro e; cases e; omega),
    h.bel.grown hg h.bel.size (fun k hk => by cases hk; have := h.n1; have := h.n2; have := h.n3; omega), h.n1, h.n2, h.n3⟩
theorem DV.later {B2 B3 br s p ok w0 w w'} (h : DV B2 B3 br s p ok w0 w) (hb : Below w.heap.size w w') : DV B2 B3 br s p ok w0 w' :=
  ⟨h.rd.below hb h.rd.lt, h.r2.below hb h.r2.lt, h.r3.below hb h.r3.lt, h.bel.trans (hb.mono h.bel.size), h.n1, h.n2, h.n3⟩
theorem DV.alloc {B2 B3 br s p ok w0 w} (h : DV B2 B3 br s p ok w0 w) (o : Obj) : DV B2 B3 br s p ok w0 (w.alloc o) :=
  ⟨h.rd.bl.alloc o, h.r2.alloc o, h.r3.alloc o, h.bel.alloc h.bel.size o, h.n1, h.n2, h.n3⟩
theorem DV.set {B2 B3 br s p ok w0 w} (h : DV B2 B3 br s p ok w0 w) (c o : Nat) (v : Value) (hc : br < c) : DV B2 B3 br s p ok w0 (w.setCell ⟨c, o, none⟩ v) :=
  have := h.n1; have := h.n2; have := h.n3
  ⟨h.rd.bl.other c o v (by omega), h.r2.other c o v (by omega), h.r3.other c o v (by omega), h.bel.setCell (by show _ ≤ c; omega) v, h.n1, h.n2, h.n3⟩

/-- The steps of reading a form. -/
def dR0 (L : List UInt8) := rdS L [60] 0 true
def dR1 (L : List UInt8) := rdS L [80, 83, 68] (dR0 L).2.1 (dR0 L).2.2
def dR2 (L : List UInt8) := rdS L [104, 99, 107, 109] (dR1 L).2.1 (dR1 L).2.2
def dR3 (L : List UInt8) := numS L (dR2 L).2.1 (dR2 L).2.2
def dR4 (L : List UInt8) := rdS L [44] (dR3 L).2.1 (dR3 L).2.2
def dR5 (L : List UInt8) := numS L (dR4 L).2.1 (dR4 L).2.2
def dR6 (L : List UInt8) := rdS L [59] (dR5 L).2.1 (dR5 L).2.2
abbrev hexL : List UInt8 := [48, 49, 50, 51, 52, 53, 54, 55, 56, 57, 97, 98, 99, 100, 101, 102]
def dR7 (L : List UInt8) := rdS L hexL (dR6 L).2.1 (dR6 L).2.2
def dR8 (L : List UInt8) := rdS L hexL (dR7 L).2.1 (dR7 L).2.2
def dR9 (L : List UInt8) := rdS L [62] (dR8 L).2.1 (dR8 L).2.2

theorem dR1_b (L : List UInt8) : 0 ≤ (dR1 L).1 ∧ (dR1 L).1 < 4 := by
  have := rdS_bound L [80, 83, 68] (dR0 L).2.1 (dR0 L).2.2
  simp only [List.length_cons, List.length_nil] at this
  exact ⟨this.1, by unfold dR1; omega⟩
theorem dR2_b (L : List UInt8) : 0 ≤ (dR2 L).1 ∧ (dR2 L).1 < 5 := by
  have := rdS_bound L [104, 99, 107, 109] (dR1 L).2.1 (dR1 L).2.2
  simp only [List.length_cons, List.length_nil] at this
  exact ⟨this.1, by unfold dR2; omega⟩

theorem rune_dv {B2 B3 br : Nat} {s : ByteArray} {p : Nat} {ok : Bool} {w0 w : World} (h : DV B2 B3 br s p ok w0 w) (hs : s.size ≤ 16) (of : ByteArray) (ho : of.size ≤ 100)
    (ha : of.data.toList.all (fun c => decide (c.toNat < 128)) = true) (r : Int × Nat × Bool) (hr : rdS s.data.toList of.data.toList p ok = r) :
    Calls Tryd.prog 70 #[.pointer (some ⟨br, 0, none⟩), .string of] w fun e w' => e = .returned (.int .i64 r.1) ∧ DV B2 B3 br s r.2.1 r.2.2 w0 w' ∧ w.grownBy w' (some br) := by
  subst hr
  exact (rune_any br s of p ok w (by unfold maxLen; omega) (by unfold maxLen; omega) (asc_of ha) h.rd).mono fun e w' ⟨he, hR, hg⟩ => ⟨he, h.call hR hg, hg⟩
theorem number_dv {B2 B3 br : Nat} {s : ByteArray} {p : Nat} {ok : Bool} {w0 w : World} (h : DV B2 B3 br s p ok w0 w) (hs : s.size ≤ 16) (r : Int × Nat × Bool) (hr : numS s.data.toList p ok = r) :
    Calls Tryd.prog 71 #[.pointer (some ⟨br, 0, none⟩)] w fun e w' => e = .returned (.int .i64 r.1) ∧ DV B2 B3 br s r.2.1 r.2.2 w0 w' ∧ w.grownBy w' (some br) := by
  subst hr
  exact (number_any br s p ok w (by unfold maxLen; omega) h.rd).mono fun e w' ⟨he, hR, hg⟩ => ⟨he, h.call hR hg, hg⟩

/-- What is read, or its fault. -/
structure DecR where
  t : Int
  k : Int
  a : Int
  b : Int
  er : Int
  at' : Int
def DecR.v (d : DecR) : Value := .tuple #[.agg #[.int .i64 d.t, .int .i64 d.k, .int .i64 d.a, .int .i64 d.b], .agg #[.int .i64 d.er, .int .i64 d.at']]

/-- The form that ASCII bytes are. -/
def decA (L : List UInt8) : DecR :=
  if (dR9 L).2.2 = false then ⟨0, 0, 0, 0, 3, (dR9 L).2.1⟩
  else if (L.drop (dR6 L).2.1).take 2 ≠ hexS (crc ((L.drop 1).take ((dR6 L).2.1 - 1))) then ⟨0, 0, 0, 0, 10, (dR6 L).2.1⟩
  else if (dR9 L).2.1 < L.length then ⟨0, 0, 0, 0, 3, (dR9 L).2.1⟩
  else ⟨1 + (dR1 L).1, 1 + (dR2 L).1, (dR3 L).1, (dR5 L).1, 0, 0⟩

theorem rdS_ok {s of : List UInt8} {p : Nat} {ok : Bool} (h : (rdS s of p ok).2.2 = true) : ok = true ∧ p < s.length ∧ (rdS s of p ok).2.1 = p + 1 := by
  unfold rdS at h ⊢
  split at h
  · simp at h
  · rename_i hn
    simp only [not_or, Bool.not_eq_false] at hn
    split at h
    · simp at h
    · rename_i hn2
      rw [if_neg (by simp only [not_or, Bool.not_eq_false]; exact hn), if_neg hn2]
      exact ⟨hn.1, by omega, rfl⟩
theorem rdS_ok1 {s of : List UInt8} {p : Nat} {ok : Bool} (h : (rdS s of p ok).2.2 = true) : ok = true := (rdS_ok h).1
theorem numS_ok {s : List UInt8} {p : Nat} {ok : Bool} (h : (numS s p ok).2.2 = true) : ok = true ∧ p + 1 ≤ (numS s p ok).2.1 ∧ (numS s p ok).2.1 ≤ s.length := by
  unfold numS at h ⊢
  simp only [] at h ⊢
  split at h
  · rename_i hc
    simp only [if_pos hc] at h ⊢
    obtain ⟨h1, h2, h3⟩ := rdS_ok h
    obtain ⟨g1, g2, g3⟩ := rdS_ok h1
    exact ⟨g1, by omega, by omega⟩
  · rename_i hc
    simp only [if_neg hc]
    obtain ⟨g1, g2, g3⟩ := rdS_ok h
    exact ⟨g1, by omega, by omega⟩
theorem dR9_ok {L : List UInt8} (h : (dR9 L).2.2 = true) : 1 ≤ (dR6 L).2.1 ∧ (dR9 L).2.1 = (dR6 L).2.1 + 3 ∧ (dR6 L).2.1 + 3 ≤ L.length := by
  obtain ⟨h8, a9, b9⟩ := rdS_ok h
  obtain ⟨h7, a8, b8⟩ := rdS_ok h8
  obtain ⟨h6, a7, b7⟩ := rdS_ok h7
  obtain ⟨_, _, b6⟩ := rdS_ok h6
  have e9 : (dR9 L).2.1 = (dR8 L).2.1 + 1 := b9
  have e8 : (dR8 L).2.1 = (dR7 L).2.1 + 1 := b8
  have e7 : (dR7 L).2.1 = (dR6 L).2.1 + 1 := b7
  have e6 : (dR6 L).2.1 = (dR5 L).2.1 + 1 := b6
  omega

theorem extract_list (s : ByteArray) (a b : Nat) : (s.extract a b).data.toList = (s.data.toList.drop a).take (b - a) := by simp
theorem toList_data (s : ByteArray) : s.toList = s.data.toList := ByteArray.toList_eq s

theorem str_eq {s : ByteArray} {e : Nat} (h : (!(s.extract e (e + 2)).toList == (bs (hexS (crc (s.extract 1 e).data.toList))).toList) = false) :
    ¬ (s.data.toList.drop e).take 2 ≠ hexS (crc ((s.data.toList.drop 1).take (e - 1))) := by
  simp only [Bool.not_eq_false', beq_iff_eq, toList_data, extract_list, bs_list] at h
  rw [← h]; simp
theorem str_ne {s : ByteArray} {e : Nat} (h : (!(s.extract e (e + 2)).toList == (bs (hexS (crc (s.extract 1 e).data.toList))).toList) = true) :
    (s.data.toList.drop e).take 2 ≠ hexS (crc ((s.data.toList.drop 1).take (e - 1))) := by
  simp only [Bool.not_eq_true', beq_eq_false_iff_ne, toList_data, extract_list, bs_list] at h
  simpa using h
theorem decA_sum {L : List UInt8} (h : (dR9 L).2.2 = true) (hx : (L.drop (dR6 L).2.1).take 2 ≠ hexS (crc ((L.drop 1).take ((dR6 L).2.1 - 1)))) : decA L = ⟨0, 0, 0, 0, 10, (dR6 L).2.1⟩ := by
  rw [decA, if_neg (by simp [h]), if_pos hx]
theorem decA_long {L : List UInt8} (h : (dR9 L).2.2 = true) (hx : ¬ (L.drop (dR6 L).2.1).take 2 ≠ hexS (crc ((L.drop 1).take ((dR6 L).2.1 - 1)))) (hl : (dR9 L).2.1 < L.length) : decA L = ⟨0, 0, 0, 0, 3, (dR9 L).2.1⟩ := by
  rw [decA, if_neg (by simp [h]), if_neg hx, if_pos hl]
theorem decA_good {L : List UInt8} (h : (dR9 L).2.2 = true) (hx : ¬ (L.drop (dR6 L).2.1).take 2 ≠ hexS (crc ((L.drop 1).take ((dR6 L).2.1 - 1)))) (hl : ¬ (dR9 L).2.1 < L.length) : decA L = ⟨1 + (dR1 L).1, 1 + (dR2 L).1, (dR3 L).1, (dR5 L).1, 0, 0⟩ := by
  rw [decA, if_neg (by simp [h]), if_neg hx, if_neg hl]

theorem results_dec {tm : Array Value} {W : World} {B2 B3 : Nat} {t k a b er at' : Value} (h2 : tm.getD 2 undef = .pointer (some ⟨B2, 0, none⟩)) (h3 : tm.getD 3 undef = .pointer (some ⟨B3, 0, none⟩))
    (b2 : Bl B2 #[t, k, a, b] 68 W) (b3 : Bl B3 #[er, at'] 70 W) : (results Tryd.f43 tm).run Tryd.prog W = .ok (.tuple #[.agg #[t, k, a, b], .agg #[er, at']]) W := by
  rw [Array.getD_eq_getD_getElem?] at h2 h3
  have z0 := b2.cell 0
  have z1 := b2.cell 1
  have z2 := b2.cell 2
  have z3 := b2.cell 3
  have y0 := b3.cell 0
  have y1 := b3.cell 1
  simp only [List.getElem?_toArray, List.getElem?_cons_zero, List.getElem?_cons_succ] at z0 z1 z2 z3 y0 y1
  simp [results, Tryd.results43, go_sem, h2, h3, z0, z1, z2, z3, y0, y1]

theorem dec_ret {R : Ending → World → Prop} {ac : Act} {W : World} {B2 B3 : Nat} {t k a b er at' : Value} (h2 : ac.tmps.getD 2 undef = .pointer (some ⟨B2, 0, none⟩)) (h3 : ac.tmps.getD 3 undef = .pointer (some ⟨B3, 0, none⟩)) (hd : ac.defers = [])
    (b2 : Bl B2 #[t, k, a, b] 68 W) (b3 : Bl B3 #[er, at'] 70 W) (hR : R (.returned (.tuple #[.agg #[t, k, a, b], .agg #[er, at']])) W) : bodyPost Tryd.prog Tryd.f43 R .ret ac W :=
  bodyPost_ret (results_dec h2 h3 b2 b3) hd hR

theorem dec_store {B2 B3 br : Nat} {s : ByteArray} {p : Nat} {ok : Bool} {w0 w : World} (h : DV B2 B3 br s p ok w0 w) (t k a b er at' : Value) :
    Bl B2 #[t, k, a, b] 68 ((((((w.setCell ⟨B2, 0, none⟩ t).setCell ⟨B2, 1, none⟩ k).setCell ⟨B2, 2, none⟩ a).setCell ⟨B2, 3, none⟩ b).setCell ⟨B3, 0, none⟩ er).setCell ⟨B3, 1, none⟩ at') ∧
    Bl B3 #[er, at'] 70 ((((((w.setCell ⟨B2, 0, none⟩ t).setCell ⟨B2, 1, none⟩ k).setCell ⟨B2, 2, none⟩ a).setCell ⟨B2, 3, none⟩ b).setCell ⟨B3, 0, none⟩ er).setCell ⟨B3, 1, none⟩ at') ∧
    Below w0.heap.size w0 ((((((w.setCell ⟨B2, 0, none⟩ t).setCell ⟨B2, 1, none⟩ k).setCell ⟨B2, 2, none⟩ a).setCell ⟨B2, 3, none⟩ b).setCell ⟨B3, 0, none⟩ er).setCell ⟨B3, 1, none⟩ at') := by
  have n1 := h.n1
  have n2 := h.n2
  have e1 : B2 ≠ B3 := by omega
  have e2 : B3 ≠ B2 := by omega
  refine ⟨?_, ?_, ?_⟩
  · exact (((((h.r2.set 0 t).set 1 k).set 2 a).set 3 b).other B3 0 er e1).other B3 1 at' e1
  · exact (((((h.r3.other B2 0 t e2).other B2 1 k e2).other B2 2 a e2).other B2 3 b e2).set 0 er).set 1 at'
  · exact (((((h.bel.setCell n1 t).setCell n1 k).setCell n1 a).setCell n1 b).setCell (by show _ ≤ B3; omega) er).setCell (by show _ ≤ B3; omega) at'


end Go.Proofs.YtaipifjmkbcjjaaDoor

/- Laws of whole blocks: a struct of many cells read and written at once. -/
namespace Go.Proofs.YtaipifjmkbcjjaaDoor
open Go.RowKit

section
variable {P : Program}

/-- A struct read out of its block. -/
theorem wp_load_bl {o : Oper} {a : Act} {w : World} {K : Act → World → Prop} {Q : Exit → Act → World → Prop} (ty : TypeId) (x : Operand) (ho : o.op = .load ty x)
    (g : Nat) (hx : a.eval x = .pointer (some ⟨g, 0, none⟩)) (t : TypeId) (cs : Array Value) (d : TypeDesc) (hg : Bl g cs t w)
    (hu : P.underlying ty = some d) (hd : (match d with | .struct _ | .array _ _ => true | _ => false) = true) (hi : (P.info? ty).map (·.size) = some cs.size)
    (h : K (a.put o.dst (.agg cs)) w) : o.wp P a w K Q := wp_load_row ty x ho g hx t cs (0, 0) d hg hu hd hi h

theorem wpList_load_bl {ops : Array Oper} {rest : List Oper} {o : Oper} {a : Act} {w : World} {Q : Exit → Act → World → Prop} (hgd : Region.wanted o (yielded ops a.tmps) = true) (ty : TypeId) (x : Operand) (ho : o.op = .load ty x)
    (g : Nat) (hx : a.eval x = .pointer (some ⟨g, 0, none⟩)) (t : TypeId) (cs : Array Value) (d : TypeDesc) (hg : Bl g cs t w)
    (hu : P.underlying ty = some d) (hd : (match d with | .struct _ | .array _ _ => true | _ => false) = true) (hi : (P.info? ty).map (·.size) = some cs.size)
    (h : wpList P ops Q rest (a.put o.dst (.agg cs)) w) : wpList P ops Q (o :: rest) a w := by
  unfold wpList
  rw [if_pos hgd]
  exact .inl (wp_load_bl ty x ho g hx t cs d hg hu hd hi h)

theorem setRow_bl {w : World} {g : Nat} {cs vs : Array Value} {t : TypeId} (hg : Bl g cs t w) : Bl g vs t (w.setRow g vs) := setRow_heap w g cs vs t (0, 0) hg
theorem setRow_grown {w : World} {g : Nat} {vs : Array Value} : w.grownBy (w.setRow g vs) (some g) :=
  ⟨rfl, rfl, rfl, by simp, fun k _ hk => setRow_other w g k vs (by intro e; exact hk (by rw [e]))⟩

/-- A struct stored into its block. -/
theorem wp_store_bl {o : Oper} {a : Act} {w : World} {K : Act → World → Prop} {Q : Exit → Act → World → Prop} (ty : TypeId) (x y : Operand) (ho : o.op = .store ty x y)
    (g : Nat) (hx : a.eval x = .pointer (some ⟨g, 0, none⟩)) (t : TypeId) (cs vs : Array Value) (hy : a.eval y = .agg vs) (hg : Bl g cs t w) (hn : vs.size = cs.size)
    (hi : (P.info? ty).map (·.size) = some cs.size) (h1 : ∀ v ∈ vs.toList, v.oneCell' = true)
    (h : ∀ w', Bl g vs t w' → w.grownBy w' (some g) → K (a.put o.dst undef) w') : o.wp P a w K Q := by
  have hs := run_storeCells_at P g 0 t vs.toList 0 cs w hg (by simp; omega) h1
  have hrow : (List.take (0 + 0) cs.toList ++ vs.toList ++ List.drop (0 + 0 + vs.toList.length) cs.toList).toArray = vs := by
    have : List.drop (0 + 0 + vs.toList.length) cs.toList = [] := List.drop_of_length_le (by simp; omega)
    rw [this]; simp
  rw [hrow] at hs
  unfold Oper.wp execOp
  cases hq : P.info? ty with
  | none => simp [hq] at hi
  | some i =>
    have hsz : i.size = cs.size := by simpa [hq] using hi
    simp only [ho, hx, hy, Instr.storeAt, Instr.sureAddr, storeVar, Value.cells, sizeOf, typeInfo, hn, Sem.run_bind, Sem.run_pure, Result.andThen_ok]
    simp [hq, hsz, hs, Oper.upon]
    exact h _ (setRow_bl hg) setRow_grown

theorem wpList_store_bl {ops : Array Oper} {rest : List Oper} {o : Oper} {a : Act} {w : World} {Q : Exit → Act → World → Prop} (hgd : Region.wanted o (yielded ops a.tmps) = true) (ty : TypeId) (x y : Operand) (ho : o.op = .store ty x y)
    (g : Nat) (hx : a.eval x = .pointer (some ⟨g, 0, none⟩)) (t : TypeId) (cs vs : Array Value) (hy : a.eval y = .agg vs) (hg : Bl g cs t w) (hn : vs.size = cs.size)
    (hi : (P.info? ty).map (·.size) = some cs.size) (h1 : ∀ v ∈ vs.toList, v.oneCell' = true)
    (h : ∀ w', Bl g vs t w' → w.grownBy w' (some g) → wpList P ops Q rest (a.put o.dst undef) w') : wpList P ops Q (o :: rest) a w := by
  unfold wpList
  rw [if_pos hgd]
  exact .inl (wp_store_bl ty x y ho g hx t cs vs hy hg hn hi h1 h)

/-- A struct result that lies in its block. -/
theorem results_bl {fn : Func} {p : Tmp} {ty : TypeId} (h : fn.results = #[.cell p ty]) (tmps : Array Value) (w : World) (g : Nat) (t : TypeId) (cs : Array Value) (d : TypeDesc)
    (hp : tmps.getD p undef = .pointer (some ⟨g, 0, none⟩)) (hg : Bl g cs t w)
    (hu : P.underlying ty = some d) (hd : (match d with | .struct _ | .array _ _ => true | _ => false) = true) (hi : (P.info? ty).map (·.size) = some cs.size) :
    (results fn tmps).run P w = .ok (.agg cs) w := results_cell_row h tmps w g t cs (0, 0) d hp hg hu hd hi
end

end Go.Proofs.YtaipifjmkbcjjaaDoor
