/- Walks: a form read by the reference. -/
import Derived.Test.YtaipifjmkbcjjaaDoorRn
import Derived.Test.YtaipifjmkbcjjaaDoorYd
namespace Go.Proofs.YtaipifjmkbcjjaaDoor
open Go.RowKit Go.Sort

/-- What lies in memory while the reference reads a form. -/
structure OV (B2 B3 br : Nat) (s : ByteArray) (p : Nat) (ok : Bool) (w0 w : World) : Prop where
  rd : Rd 110 br s p (!ok) w
  r2 : Bl B2 #[.int .i64 0, .int .i64 0, .int .i64 0, .int .i64 0] 68 w
  r3 : Bl B3 #[.int .i64 0, .int .i64 0] 70 w
  bel : Below w0.heap.size w0 w
  n1 : w0.heap.size ≤ B2
  n2 : B2 < B3
  n3 : B3 < br

theorem OV.call {B2 B3 br s p ok w0 w w' p' ok'} (h : OV B2 B3 br s p ok w0 w) (hR : Rd 110 br s p' (!ok') w') (hg : w.grownBy w' (some br)) : OV B2 B3 br s p' ok' w0 w' :=
  ⟨hR, h.r2.grown hg (by have := h.n2; have := h.n3; intro e; cases e; omega), h.r3.grown hg (by have := h.n3; intro e; cases e; omega),
    h.bel.grown hg h.bel.size (fun k hk => by cases hk; have := h.n1; have := h.n2; have := h.n3; omega), h.n1, h.n2, h.n3⟩
theorem OV.alloc {B2 B3 br s p ok w0 w} (h : OV B2 B3 br s p ok w0 w) (o : Obj) : OV B2 B3 br s p ok w0 (w.alloc o) :=
  ⟨h.rd.bl.alloc o, h.r2.alloc o, h.r3.alloc o, h.bel.alloc h.bel.size o, h.n1, h.n2, h.n3⟩
theorem OV.later {B2 B3 br s p ok w0 w w'} (h : OV B2 B3 br s p ok w0 w) (hb : Below w.heap.size w w') : OV B2 B3 br s p ok w0 w' :=
  ⟨h.rd.below hb h.rd.lt, h.r2.below hb h.r2.lt, h.r3.below hb h.r3.lt, h.bel.trans (hb.mono h.bel.size), h.n1, h.n2, h.n3⟩
theorem OV.set {B2 B3 br s p ok w0 w} (h : OV B2 B3 br s p ok w0 w) (c o : Nat) (v : Value) (hc : br < c) : OV B2 B3 br s p ok w0 (w.setCell ⟨c, o, none⟩ v) :=
  have := h.n1; have := h.n2; have := h.n3
  ⟨h.rd.bl.other c o v (by omega), h.r2.other c o v (by omega), h.r3.other c o v (by omega), h.bel.setCell (by show _ ≤ c; omega) v, h.n1, h.n2, h.n3⟩

theorem ro_ov {B2 B3 br : Nat} {s : ByteArray} {p : Nat} {ok : Bool} {w0 w : World} (h : OV B2 B3 br s p ok w0 w) (hs : s.size ≤ 16) (of : ByteArray) (ho : of.size ≤ 100) (r : Int × Nat × Bool) (hr : rdS s.data.toList of.data.toList p ok = r) :
    Calls Tryd.prog 73 #[.pointer (some ⟨br, 0, none⟩), .string of] w fun e w' => e = .returned (.int .i64 r.1) ∧ OV B2 B3 br s r.2.1 r.2.2 w0 w' ∧ w.grownBy w' (some br) := by
  subst hr
  exact (ro_any br s of p ok w (by unfold maxLen; omega) (by unfold maxLen; omega) h.rd).mono fun e w' ⟨he, hR, hg⟩ => ⟨he, h.call hR hg, hg⟩
theorem ronum_ov {B2 B3 br : Nat} {s : ByteArray} {p : Nat} {ok : Bool} {w0 w : World} (h : OV B2 B3 br s p ok w0 w) (hs : s.size ≤ 16) (r : Int × Nat × Bool) (hr : numS s.data.toList p ok = r) :
    Calls Tryd.prog 74 #[.pointer (some ⟨br, 0, none⟩)] w fun e w' => e = .returned (.int .i64 r.1) ∧ OV B2 B3 br s r.2.1 r.2.2 w0 w' ∧ w.grownBy w' (some br) := by
  subst hr
  exact (ronum_any br s p ok w (by unfold maxLen; omega) h.rd).mono fun e w' ⟨he, hR, hg⟩ => ⟨he, h.call hR hg, hg⟩

theorem rd_bound (L of : List UInt8) (p : Nat) (ok : Bool) (n : Nat) (h : of.length = n) : 0 ≤ (rdS L of p ok).1 ∧ (rdS L of p ok).1 ≤ n := by
  have := rdS_bound L of p ok; omega

/-- The two digits of a sum, as a number. -/
theorem sum_num {L : List UInt8} (h9 : (dR9 L).2.2 = true) (c : UInt8) : ((L.drop (dR6 L).2.1).take 2 = hexS c) ↔ 16 * (dR7 L).1 + (dR8 L).1 = bn c := by
  obtain ⟨h8, a9, -, j9, b9, -, d9⟩ := rd_step h9
  obtain ⟨h7, a8, -, j8, b8, v8, d8⟩ := rd_step h8
  obtain ⟨h6, a7, -, j7, b7, v7, d7⟩ := rd_step h7
  have e7 : (dR7 L).2.1 = (dR6 L).2.1 + 1 := a7
  change L.drop (dR7 L).2.1 = _ at d8
  change L.drop (dR6 L).2.1 = _ at d7
  change (dR8 L).1 = _ at v8
  change (dR7 L).1 = _ at v7
  rw [← e7] at d7
  rw [d7, d8, v7, v8]
  have g7 : hexL.getD j7 0 = hexd j7 := rfl
  have g8 : hexL.getD j8 0 = hexd j8 := rfl
  rw [g7, g8]
  simp only [List.length_cons, List.length_nil] at b7 b8
  have inj : ∀ m n : Fin 16, hexd m.val = hexd n.val → m = n := by decide
  have hc := c.toNat_lt
  unfold hexS bn
  simp only [List.take_succ_cons, List.take_zero, List.cons.injEq, and_true]
  constructor
  · rintro ⟨h1, h2⟩
    have i1 := inj ⟨j7, by omega⟩ ⟨c.toNat / 16, by omega⟩ h1
    have i2 := inj ⟨j8, by omega⟩ ⟨c.toNat % 16, by omega⟩ h2
    simp only [Fin.mk.injEq] at i1 i2
    omega
  · intro h
    have i1 : j7 = c.toNat / 16 := by omega
    have i2 : j8 = c.toNat % 16 := by omega
    rw [i1, i2]; exact ⟨rfl, rfl⟩
end Go.Proofs.YtaipifjmkbcjjaaDoor
