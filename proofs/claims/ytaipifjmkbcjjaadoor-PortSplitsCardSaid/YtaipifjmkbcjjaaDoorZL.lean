/- Walks: a form read, whatever the text is. -/
import Derived.Test.YtaipifjmkbcjjaaDoorZK1
import Derived.Test.YtaipifjmkbcjjaaDoorZK2
import Derived.Test.YtaipifjmkbcjjaaDoorZK3
import Derived.Test.YtaipifjmkbcjjaaDoorZK4
namespace Go.Proofs.YtaipifjmkbcjjaaDoor
open Go.RowKit Go.Sort

theorem decode_plain (s : ByteArray) (w : World) (hs : s.size ≤ 16) (ha : ∀ k (h : k < s.size), (s[k]'h).toNat ≤ 126) (hg : Glob w) :
    Calls Tryd.prog 43 #[.string s] w fun e w' => e = .returned (decA s.data.toList).v ∧ Below w.heap.size w w' := by
  cases hok : (dR9 s.data.toList).2.2 with
  | false => exact decode_noform s w hs ha hg hok
  | true =>
    cases hx : (!(s.extract (dR6 s.data.toList).2.1 ((dR6 s.data.toList).2.1 + 2)).toList == (bs (hexS (crc (s.extract 1 (dR6 s.data.toList).2.1).data.toList))).toList) with
    | true => exact decode_badsum s w hs ha hg _ rfl hok hx
    | false =>
      cases hl : decide ((dR9 s.data.toList).2.1 < s.size) with
      | true => exact decode_long s w hs ha hg _ rfl hok hx hl
      | false => exact decode_good s w hs ha hg _ rfl hok hx hl

set_option maxHeartbeats 400000 in
theorem beyond_any (er at' i : Int) (w : World) :
    Calls Tryd.prog 69 #[.agg #[.int .i64 er, .int .i64 at'], .int .i64 i] w fun e w' => e = .returned (.agg #[.int .i64 (if er = 0 then 3 else er), .int .i64 (if er = 0 then i else at')]) ∧ Below w.heap.size w w' := by
  by_cases h : er = 0
  · have h' : (er == 0) = true := by simpa using h
    rw [if_pos h, if_pos h]
    clear h
    go_enter Tryd.func69, Tryd.ntmps69
    go_wp2
    exact bodyPost_ret (v := .agg #[.int .i64 3, .int .i64 i]) (by simp [results, Tryd.results69, go_sem]) rfl ⟨rfl, ((Below.refl _ _).alloc (Nat.le_refl _) _).alloc (by simp) _⟩
  · have h' : (er == 0) = false := by simpa using h
    rw [if_neg h, if_neg h]
    clear h
    go_enter Tryd.func69, Tryd.ntmps69
    go_wp2
    exact bodyPost_ret (v := .agg #[.int .i64 er, .int .i64 at']) (by simp [results, Tryd.results69, go_sem]) rfl ⟨rfl, ((Below.refl _ _).alloc (Nat.le_refl _) _).alloc (by simp) _⟩

set_option maxHeartbeats 400000 in
theorem decode_over (s : ByteArray) (w : World) (h : 16 < s.size) (hm : s.size ≤ maxLen) :
    Calls Tryd.prog 43 #[.string s] w fun e w' => e = .returned (DecR.mk 0 0 0 0 4 16).v ∧ Below w.heap.size w w' := by
  unfold maxLen at hm
  have h16 : decide ((16 : Int) < s.size) = true := by simp; omega
  go_enter Tryd.func43, Tryd.ntmps43
  go_wp2
  exact bodyPost_ret (v := (DecR.mk 0 0 0 0 4 16).v) (by simp [results, Tryd.results43, go_sem, DecR.v]) rfl ⟨rfl, ((Below.refl _ _).alloc (Nat.le_refl _) _).alloc (by simp) _⟩

theorem decode_bad_rune (s : ByteArray) (k : Nat) (h : k < s.size) (hb : 126 < (s[k]'h).toNat) : 126 < (Utf8.decode s k).1 ∧ (Utf8.decode s k).1 ≤ 2147483647 := by
  refine ⟨?_, decode_le s k⟩
  by_cases ha : (s[k]'h).toNat < 128
  · rw [decode_ascii s k h ha]; exact hb
  · have := (decode_high s k h (by omega)).1; omega

theorem dec_store2 {B2 B3 : Nat} {w0 w : World} {t0 k0 a0 b0 r0 p0 : Value} (h2 : Bl B2 #[t0, k0, a0, b0] 68 w) (h3 : Bl B3 #[r0, p0] 70 w) (hb : Below w0.heap.size w0 w) (n1 : w0.heap.size ≤ B2) (n2 : B2 < B3) (t k a b er at' : Value) :
    Bl B2 #[t, k, a, b] 68 ((((((w.setCell ⟨B2, 0, none⟩ t).setCell ⟨B2, 1, none⟩ k).setCell ⟨B2, 2, none⟩ a).setCell ⟨B2, 3, none⟩ b).setCell ⟨B3, 0, none⟩ er).setCell ⟨B3, 1, none⟩ at') ∧
    Bl B3 #[er, at'] 70 ((((((w.setCell ⟨B2, 0, none⟩ t).setCell ⟨B2, 1, none⟩ k).setCell ⟨B2, 2, none⟩ a).setCell ⟨B2, 3, none⟩ b).setCell ⟨B3, 0, none⟩ er).setCell ⟨B3, 1, none⟩ at') ∧
    Below w0.heap.size w0 ((((((w.setCell ⟨B2, 0, none⟩ t).setCell ⟨B2, 1, none⟩ k).setCell ⟨B2, 2, none⟩ a).setCell ⟨B2, 3, none⟩ b).setCell ⟨B3, 0, none⟩ er).setCell ⟨B3, 1, none⟩ at') := by
  have e1 : B2 ≠ B3 := by omega
  have e2 : B3 ≠ B2 := by omega
  refine ⟨?_, ?_, ?_⟩
  · exact (((((h2.set 0 t).set 1 k).set 2 a).set 3 b).other B3 0 er e1).other B3 1 at' e1
  · exact (((((h3.other B2 0 t e2).other B2 1 k e2).other B2 2 a e2).other B2 3 b e2).set 0 er).set 1 at'
  · exact (((((hb.setCell n1 t).setCell n1 k).setCell n1 a).setCell n1 b).setCell (by show _ ≤ B3; omega) er).setCell (by show _ ≤ B3; omega) at'

/-- What is read of a text that begins with ASCII bytes and goes on with another byte. -/
def bey (d : DecR) (i : Nat) : DecR := ⟨0, 0, 0, 0, if d.er = 0 then 3 else d.er, if d.er = 0 then i else d.at'⟩

set_option maxHeartbeats 1000000 in
theorem decode_bad (s : ByteArray) (n : Nat) (w : World) (hs : s.size ≤ 16) (hn : n < s.size) (hb : 126 < (s[n]'hn).toNat) (ha : ∀ k (h : k < n), (s[k]'(by omega)).toNat ≤ 126) (hg : Glob w) :
    Calls Tryd.prog 43 #[.string s] w fun e w' => e = .returned (bey (decA (s.data.toList.take n)) n).v ∧ Below w.heap.size w w' := by
  have HA := Lib.hid ha
  clear ha
  obtain ⟨hr1, hr2⟩ := decode_bad_rune s n hn hb
  clear hb
  have h16 : decide ((16 : Int) < s.size) = false := by simp; omega
  go_enter Tryd.func43, Tryd.ntmps43
  go_wp2_with fail
  have H2 : Hid (Bl w.heap.size #[.int .i64 0, .int .i64 0, .int .i64 0, .int .i64 0] 68 ((w.alloc (.cells #[.int .i64 0, .int .i64 0, .int .i64 0, .int .i64 0] 68)).alloc (.cells #[.int .i64 0, .int .i64 0] 70))) := (Bl.new _ _ _).alloc _
  have H3 : Hid (Bl (w.heap.size + 1) #[.int .i64 0, .int .i64 0] 70 ((w.alloc (.cells #[.int .i64 0, .int .i64 0, .int .i64 0, .int .i64 0] 68)).alloc (.cells #[.int .i64 0, .int .i64 0] 70))) := by
    have := Bl.new (w.alloc (.cells #[.int .i64 0, .int .i64 0, .int .i64 0, .int .i64 0] 68)) #[.int .i64 0, .int .i64 0] 70
    show Bl _ _ _ _
    simpa using this
  have HB : Hid (Below w.heap.size w ((w.alloc (.cells #[.int .i64 0, .int .i64 0, .int .i64 0, .int .i64 0] 68)).alloc (.cells #[.int .i64 0, .int .i64 0] 70))) := ((Below.refl _ _).alloc (Nat.le_refl _) _).alloc (by simp) _
  have HS : Hid (((w.alloc (.cells #[.int .i64 0, .int .i64 0, .int .i64 0, .int .i64 0] 68)).alloc (.cells #[.int .i64 0, .int .i64 0] 70)).heap.size = w.heap.size + 1 + 1) := by show _ = _; simp
  generalize (w.alloc (.cells #[.int .i64 0, .int .i64 0, .int .i64 0, .int .i64 0] 68)).alloc (.cells #[.int .i64 0, .int .i64 0] 70) = W at *
  generalize hB2 : w.heap.size = B2 at *
  have hlt23 : B2 < B2 + 1 := by omega
  generalize hB3 : B2 + 1 = B3 at *
  have hlt3N : B3 < B3 + 1 := by omega
  generalize hN : B3 + 1 = N at *
  have HB2 := Lib.hid hB2
  clear hB2 hB3 hN
  go_loopw [4, 5] (fun a b wr => ∃ k : Nat, k ≤ n ∧ wr = W.iter s k) (fun _ _ wr => s.size - wr.iterPos N)
  case atStart => exact ⟨0, by omega, rfl⟩
  case round =>
    obtain ⟨k, hk, rfl⟩ := hrel
    have HP : Hid (∀ k, (W.iter s k).iterPos N = k) := by intro k; rw [← HS.out]; exact World.iterPos_iter _ _ _
    by_cases hlt : k < n
    · have hc := HA.out k hlt
      have hn := fun ty => run_next_ascii (P := Tryd.prog) W s k ty (by omega) (by omega)
      rw [HS.out] at hn
      go_wp2_with fail
      refine ⟨⟨k + 1, by omega, rfl⟩, ?_⟩
      rw [HP.out, HP.out]; omega
    · obtain rfl : k = n := by omega
      have hnx := fun ty => run_next_any (P := Tryd.prog) W s k ty (by omega)
      rw [HS.out] at hnx
      have hbc : Below W.heap.size W (W.iter s (k + (Utf8.decode s k).2)) := (Below.refl _ _).alloc (Nat.le_refl _) _
      have HBW : Hid (Below w.heap.size w W) := by show Below _ _ _; rw [HB2.out]; exact HB.out
      have hG := Lib.hid (hg.next (HBW.out.trans (hbc.mono HBW.out.size)))
      have hX2 := H2.out.below hbc H2.out.lt
      have hX3 := H3.out.below hbc H3.out.lt
      have HXB := Lib.hid (HBW.out.trans (hbc.mono HBW.out.size))
      clear hbc
      generalize W.iter s (k + (Utf8.decode s k).2) = X at *
      generalize (Utf8.decode s k).1 = c at *
      obtain ⟨d, hd⟩ : ∃ d, decA (s.data.toList.take k) = d := ⟨_, rfl⟩
      have HD := Lib.hid hd
      clear hd
      have hcall : Hid (Calls Tryd.prog 43 #[.string (s.extract 0 k)] X fun e w' => e = .returned (.tuple #[.agg #[.int .i64 d.t, .int .i64 d.k, .int .i64 d.a, .int .i64 d.b], .agg #[.int .i64 d.er, .int .i64 d.at']]) ∧ Below X.heap.size X w') := by
        have h := decode_plain (s.extract 0 k) X (by rw [ByteArray.size_extract]; omega) (by
          intro j hj
          have hj' : j < k := by rw [ByteArray.size_extract] at hj; omega
          rw [ByteArray.getElem_extract]
          simp only [Nat.zero_add]
          exact HA.out j hj') hG.out
        rw [extract_list, List.drop_zero, Nat.sub_zero, HD.out] at h
        exact h
      go_wp2_with fail
      refine hcall.out.mono ?_
      rintro e w1 ⟨rfl, hb1⟩
      have hY2 := hX2.below hb1 hX2.lt
      have hY3 := hX3.below hb1 hX3.lt
      have HYB := Lib.hid (HXB.out.trans (hb1.mono HXB.out.size))
      clear hcall hX2 hX3 hb1
      go_wp2_with fail
      have hZ2 := (hY2.alloc (.cells #[.int .i64 d.t, .int .i64 d.k, .int .i64 d.a, .int .i64 d.b] 68)).alloc (.cells #[.int .i64 d.er, .int .i64 d.at'] 70)
      have hZ3 := (hY3.alloc (.cells #[.int .i64 d.t, .int .i64 d.k, .int .i64 d.a, .int .i64 d.b] 68)).alloc (.cells #[.int .i64 d.er, .int .i64 d.at'] 70)
      have HZB := Lib.hid ((HYB.out.alloc HYB.out.size (.cells #[.int .i64 d.t, .int .i64 d.k, .int .i64 d.a, .int .i64 d.b] 68)).alloc (by have := HYB.out.size; simp; omega) (.cells #[.int .i64 d.er, .int .i64 d.at'] 70))
      clear hY2 hY3 HYB
      generalize (w1.alloc (.cells #[.int .i64 d.t, .int .i64 d.k, .int .i64 d.a, .int .i64 d.b] 68)).alloc (.cells #[.int .i64 d.er, .int .i64 d.at'] 70) = W2 at *
      refine (beyond_any _ _ _ _).mono ?_
      rintro e w2 ⟨rfl, hb2⟩
      have hU2 := hZ2.below hb2 hZ2.lt
      have hU3 := hZ3.below hb2 hZ3.lt
      have HUB := Lib.hid (HZB.out.trans (hb2.mono HZB.out.size))
      clear hZ2 hZ3 HZB hb2
      generalize hE : (if d.er = 0 then (3 : Int) else d.er) = er
      generalize hA : (if d.er = 0 then (k : Int) else d.at') = at'
      have HE := Lib.hid hE
      have HAt := Lib.hid hA
      clear hE hA
      have z0 := hU2.cell 0
      have z1 := hU2.cell 1
      have z2 := hU2.cell 2
      have z3 := hU2.cell 3
      have y0 := hU3.cell 0
      have y1 := hU3.cell 1
      have g0 := hU2.fr
      have g1 := hU3.fr
      have n23 : ¬ B2 = B3 := by omega
      have n32 : ¬ B3 = B2 := by omega
      go_wp2
      obtain ⟨e1, e2, e3⟩ := dec_store2 hU2 hU3 HUB.out (by rw [HB2.out]; exact Nat.le_refl _) hlt23 (.int .i64 0) (.int .i64 0) (.int .i64 0) (.int .i64 0) (.int .i64 er) (.int .i64 at')
      refine dec_ret rfl rfl rfl e1 e2 ⟨?_, e3⟩
      rw [HD.out, ← HE.out, ← HAt.out]; rfl

/-- What 'Decode' answers. -/
def decS (L : List UInt8) : DecR :=
  if 16 < L.length then ⟨0, 0, 0, 0, 4, 16⟩ else
  match L.findIdx? (fun c => decide (126 < c.toNat)) with
  | none => decA L
  | some i => bey (decA (L.take i)) i

theorem decode_any (s : ByteArray) (w : World) (hm : s.size ≤ maxLen) (hg : Glob w) :
    Calls Tryd.prog 43 #[.string s] w fun e w' => e = .returned (decS s.data.toList).v ∧ Below w.heap.size w w' := by
  have hl : s.data.toList.length = s.size := by simp
  by_cases h : 16 < s.size
  · have e : decS s.data.toList = ⟨0, 0, 0, 0, 4, 16⟩ := by rw [decS, if_pos (by omega)]
    rw [e]; exact decode_over s w h hm
  · have e : decS s.data.toList = match s.data.toList.findIdx? (fun c => decide (126 < c.toNat)) with
        | none => decA s.data.toList
        | some i => bey (decA (s.data.toList.take i)) i := by rw [decS, if_neg (by omega)]
    rw [e]
    cases hf : s.data.toList.findIdx? (fun c => decide (126 < c.toNat)) with
    | none =>
      refine decode_plain s w (by omega) ?_ hg
      intro k hk
      rw [List.findIdx?_eq_none_iff] at hf
      have := hf s[k] (Array.getElem_mem_toList (xs := s.data) hk)
      simpa using this
    | some n =>
      rw [List.findIdx?_eq_some_iff_getElem] at hf
      obtain ⟨h1, h2, h3⟩ := hf
      have hn : n < s.size := by omega
      refine decode_bad s n w (by omega) hn ?_ ?_ hg
      · have : s.data.toList[n] = s[n] := rfl
        rw [this] at h2; simpa using h2
      · intro k hk
        have h4 := h3 k hk
        have : s.data.toList[k]'(by omega) = s[k]'(by omega) := rfl
        rw [this] at h4; simpa using h4

end Go.Proofs.YtaipifjmkbcjjaaDoor
