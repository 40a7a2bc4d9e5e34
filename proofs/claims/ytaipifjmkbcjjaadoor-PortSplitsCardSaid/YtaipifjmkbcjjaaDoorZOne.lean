/- Walks: the frame at the beginning of a stream. -/
import Derived.Test.YtaipifjmkbcjjaaDoorZIx
import Derived.Test.YtaipifjmkbcjjaaDoorZg2
namespace Go.Proofs.YtaipifjmkbcjjaaDoor
open Go.RowKit Go.Sort

/-- A frame. -/
structure Fr where
  t : Int
  k : Int
  a : Int
  b : Int
deriving DecidableEq
abbrev Fr.c (f : Fr) : Array Value := #[.int .i64 f.t, .int .i64 f.k, .int .i64 f.a, .int .i64 f.b]
abbrev Fr.v (f : Fr) : Value := .agg f.c
def fr0 : Fr := ⟨0, 0, 0, 0⟩

/-- Where the next angle bracket stands behind the first byte, among the next sixteen. -/
def nearS (L : List UInt8) : List UInt8 := (L.drop 1).take 16
def oneS (L : List UInt8) : Fr × Nat :=
  if L.getD 0 0 ≠ 60 then (fr0, 1)
  else if Lib.indexAny (nearS L) [60, 62] < 0 then (fr0, 1)
  else if (nearS L).getD (Lib.indexAny (nearS L) [60, 62]).toNat 0 ≠ 62 then (fr0, 1)
  else if (decS (L.take ((Lib.indexAny (nearS L) [60, 62]).toNat + 2))).er ≠ 0 then (fr0, 1)
  else (let d := decS (L.take ((Lib.indexAny (nearS L) [60, 62]).toNat + 2)); (⟨d.t, d.k, d.a, d.b⟩, (Lib.indexAny (nearS L) [60, 62]).toNat + 2))

theorem indexAny_lt (l c : List UInt8) : Lib.indexAny l c < l.length := by
  induction l with
  | nil => simp [Lib.indexAny]
  | cons b l ih =>
    unfold Lib.indexAny
    simp only [List.length_cons]
    repeat' split
    all_goals omega

theorem size_list (b : ByteArray) : b.size = b.data.toList.length := by simp

theorem results_89 {tm : Array Value} {W : World} {B : Nat} {f : Fr} {v : Value} (h2 : tm.getD 2 undef = .pointer (some ⟨B, 0, none⟩)) (h3 : tm.getD 3 undef = v)
    (b2 : Bl B f.c 68 W) : (results Tryd.f89 tm).run Tryd.prog W = .ok (.tuple #[f.v, v]) W := by
  rw [Array.getD_eq_getD_getElem?] at h2 h3
  have z0 := b2.cell 0
  have z1 := b2.cell 1
  have z2 := b2.cell 2
  have z3 := b2.cell 3
  simp only [List.getElem?_toArray, List.getElem?_cons_zero, List.getElem?_cons_succ] at z0 z1 z2 z3
  simp [results, Tryd.results89, go_sem, h2, h3, z0, z1, z2, z3]
theorem one_ret {R : Ending → World → Prop} {ac : Act} {W : World} {B : Nat} {f : Fr} {v : Value} (h2 : ac.tmps.getD 2 undef = .pointer (some ⟨B, 0, none⟩)) (h3 : ac.tmps.getD 3 undef = v) (hd : ac.defers = [])
    (b2 : Bl B f.c 68 W) (hR : R (.returned (.tuple #[f.v, v])) W) : bodyPost Tryd.prog Tryd.f89 R .ret ac W :=
  bodyPost_ret (results_89 h2 h3 b2) hd hR

theorem stored {w w2 : World} {c : Array Value} (hc : c.size = 4) (hB : Bl w.heap.size c 68 w2) (hW : Below w.heap.size w w2) (o1 o2 : Obj) (v0 v1 v2 v3 : Value) :
    Bl w.heap.size #[v0, v1, v2, v3] 68 ((((((w2.alloc o1).alloc o2).setCell ⟨w.heap.size, 0, none⟩ v0).setCell ⟨w.heap.size, 1, none⟩ v1).setCell ⟨w.heap.size, 2, none⟩ v2).setCell ⟨w.heap.size, 3, none⟩ v3) ∧
      Below w.heap.size w ((((((w2.alloc o1).alloc o2).setCell ⟨w.heap.size, 0, none⟩ v0).setCell ⟨w.heap.size, 1, none⟩ v1).setCell ⟨w.heap.size, 2, none⟩ v2).setCell ⟨w.heap.size, 3, none⟩ v3) := by
  have h1 := (hB.alloc o1).alloc o2
  have h2 : Below w.heap.size w ((w2.alloc o1).alloc o2) := (hW.alloc hW.size o1).alloc (hW.alloc hW.size o1).size o2
  have h3 := (((h1.set 0 v0).set 1 v1).set 2 v2).set 3 v3
  obtain ⟨l⟩ := c
  match l, hc with
  | [c0, c1, c2, c3], _ => exact ⟨h3, (((h2.setCell (Nat.le_refl _) v0).setCell (Nat.le_refl _) v1).setCell (Nat.le_refl _) v2).setCell (Nat.le_refl _) v3⟩

set_option maxHeartbeats 1000000 in
theorem one_any (s : ByteArray) (w : World) (h1 : 0 < s.size) (hm : s.size ≤ maxLen) (hg : Glob w) (f : Fr) (n : Nat) (hf : oneS s.data.toList = (f, n)) :
    Calls Tryd.prog 89 #[.string s] w fun e w' => e = .returned (.tuple #[f.v, .int .i64 n]) ∧ Below w.heap.size w w' := by
  have hl : s.data.toList.length = s.size := by simp
  have h0 : s.data.toList.getD 0 0 = s[0]'h1 := byte_at s 0 h1
  unfold oneS at hf
  rw [h0] at hf
  unfold maxLen at hm
  by_cases ha : s[0]'h1 ≠ 60
  · rw [if_pos ha] at hf
    simp only [Prod.mk.injEq] at hf
    obtain ⟨rfl, rfl⟩ := hf
    have hne : (((s[0]'h1).toNat : Int) != 60) = true := by
      simp
      intro e
      exact ha (UInt8.toNat_inj.1 (by simpa using (by omega : (s[0]'h1).toNat = 60)))
    go_enter Tryd.func89, Tryd.ntmps89
    go_wp2
    exact one_ret rfl rfl rfl (Bl.new w fr0.c 68) ⟨rfl, below_alloc _ _⟩
  · rw [if_neg ha] at hf
    have hne : (((s[0]'h1).toNat : Int) != 60) = false := by
      simp only [ne_eq, Decidable.not_not] at ha
      rw [ha]; rfl
    clear ha h0
    go_enter Tryd.func89, Tryd.ntmps89
    go_wp2_with fail
    have hnl : (s.extract 1 (min (↑s.size) 17 : Int).toNat).data.toList = nearS s.data.toList := by
      rw [extract_list]
      unfold nearS
      rcases Nat.lt_or_ge s.size 17 with h | h
      · rw [List.take_of_length_le (by simp; omega), List.take_of_length_le (by simp; omega)]
      · congr 1; omega
    have hns : (s.extract 1 (min (↑s.size) 17 : Int).toNat).size = (nearS s.data.toList).length := by rw [← hnl]; exact size_list _
    have hnb : (nearS s.data.toList).length ≤ 16 ∧ (nearS s.data.toList).length + 1 ≤ s.size := by
      unfold nearS; rw [List.length_take, List.length_drop, hl]; omega
    have hib := indexAny_lt (nearS s.data.toList) [60, 62]
    generalize hnr : s.extract 1 (min (↑s.size) 17 : Int).toNat = near at *
    rw [← hnl] at hf hns hnb hib
    clear hnr
    refine (indexAny_any near _ (by omega)).mono ?_
    rintro e w1 ⟨rfl, hb⟩
    have HB := Lib.hid (Bl.below (Bl.new w fr0.c 68) hb (by simp))
    have HW := Lib.hid ((below_alloc w (.cells fr0.c 68)).trans (hb.mono (by simp)))
    have hnl2 : near.data.toList.length = near.size := by simp
    clear hb hnl
    generalize hi : Lib.indexAny near.data.toList [60, 62] = i at *
    clear hi
    have hE := HB.out.cell
    have hF := HB.out.fr
    have hx : ∀ v0 v1 v2 v3 : Value, Bl w.heap.size #[v0, v1, v2, v3] 68 ((((w1.setCell ⟨w.heap.size, 0, none⟩ v0).setCell ⟨w.heap.size, 1, none⟩ v1).setCell ⟨w.heap.size, 2, none⟩ v2).setCell ⟨w.heap.size, 3, none⟩ v3) ∧
        Below w.heap.size w ((((w1.setCell ⟨w.heap.size, 0, none⟩ v0).setCell ⟨w.heap.size, 1, none⟩ v1).setCell ⟨w.heap.size, 2, none⟩ v2).setCell ⟨w.heap.size, 3, none⟩ v3) := fun v0 v1 v2 v3 =>
      ⟨(((HB.out.set 0 v0).set 1 v1).set 2 v2).set 3 v3, (((HW.out.setCell (Nat.le_refl _) v0).setCell (Nat.le_refl _) v1).setCell (Nat.le_refl _) v2).setCell (Nat.le_refl _) v3⟩
    by_cases hneg : i < 0
    · rw [if_pos hneg] at hf
      simp only [Prod.mk.injEq] at hf
      obtain ⟨rfl, rfl⟩ := hf
      have hd : decide (i < 0) = true := by simpa using hneg
      clear hneg hib
      go_wp2
      obtain ⟨e1, e2⟩ := hx (.int .i64 0) (.int .i64 0) (.int .i64 0) (.int .i64 0)
      exact one_ret (f := fr0) rfl rfl rfl e1 ⟨rfl, e2⟩
    · rw [if_neg hneg] at hf
      obtain ⟨j, rfl⟩ : ∃ j : Nat, i = j := ⟨i.toNat, by omega⟩
      have hj : j < near.size := by omega
      have hd : decide ((j : Int) < 0) = false := by simp
      have h62 := byte_at near j hj
      simp only [Int.toNat_natCast] at hf
      rw [h62] at hf
      have hj1 : (0 : Int) ≤ j := by omega
      have hj2 : (j : Int) < near.size := by omega
      by_cases h6 : near[j]'hj ≠ 62
      · rw [if_pos h6] at hf
        simp only [Prod.mk.injEq] at hf
        obtain ⟨rfl, rfl⟩ := hf
        have hne2 : (((near[j]'hj).toNat : Int) != 62) = true := by
          simp
          intro e
          exact h6 (UInt8.toNat_inj.1 (by simpa using (by omega : (near[j]'hj).toNat = 62)))
        clear hneg hib h6 h62 hns hnl2 hl
        go_wp2
        obtain ⟨e1, e2⟩ := hx (.int .i64 0) (.int .i64 0) (.int .i64 0) (.int .i64 0)
        exact one_ret (f := fr0) rfl rfl rfl e1 ⟨rfl, e2⟩
      · rw [if_neg h6] at hf
        have hne2 : (((near[j]'hj).toNat : Int) != 62) = false := by
          simp only [ne_eq, Decidable.not_not] at h6
          rw [h6]; rfl
        obtain ⟨d, hd0⟩ : ∃ d, decS (s.data.toList.take (j + 2)) = d := ⟨_, rfl⟩
        rw [hd0] at hf
        have hjs : j + 2 ≤ s.size := by omega
        have hjs' : (j : Int) + 2 ≤ s.size := by omega
        have hwr : IntKind.i64.wrap ((j : Int) + 2) = (j : Int) + 2 := IntWalk.i64_in _ (by omega)
        have hsz : (s.extract 0 (j + 2)).size ≤ maxLen := by
          rw [size_list, extract_list]; simp; unfold maxLen; omega
        have hdl : decS (s.extract 0 (j + 2)).data.toList = d := by
          rw [extract_list, ← hd0]; simp
        have hdec := decode_fields (s.extract 0 (j + 2)) w1 hsz (hg.next HW.out) d hdl
        clear hneg hib h6 h62 hd0 hdl hx hE hF hns hnl2 hl
        go_wp2_with (go_at_call 43; refine hdec.mono ?_; rintro e w2 ⟨rfl, hb2⟩; have HB2 := Lib.hid (HB.out.below hb2 HB.out.lt); have HW2 := Lib.hid (HW.out.trans (hb2.mono HW.out.size)); clear hb2; have hE3 := fun (o1 o2 : Obj) => ((HB2.out.alloc o1).alloc o2).cell; have hF3 := fun (o1 o2 : Obj) => ((HB2.out.alloc o1).alloc o2).fr)
        · rename_i her
          have her : (d.er != 0) = true := her
          rw [if_pos (by simpa using her)] at hf
          simp only [Prod.mk.injEq] at hf
          obtain ⟨rfl, rfl⟩ := hf
          obtain ⟨e1, e2⟩ := stored rfl HB2.out HW2.out _ _ (.int .i64 0) (.int .i64 0) (.int .i64 0) (.int .i64 0)
          exact one_ret (f := fr0) rfl rfl rfl e1 ⟨rfl, e2⟩
        · rename_i her
          have her : (d.er != 0) = false := her
          rw [if_neg (by simpa using her)] at hf
          simp only [Prod.mk.injEq] at hf
          obtain ⟨rfl, rfl⟩ := hf
          obtain ⟨e1, e2⟩ := stored rfl HB2.out HW2.out _ _ (.int .i64 d.t) (.int .i64 d.k) (.int .i64 d.a) (.int .i64 d.b)
          exact one_ret (f := ⟨d.t, d.k, d.a, d.b⟩) rfl rfl rfl e1 ⟨rfl, e2⟩
end Go.Proofs.YtaipifjmkbcjjaaDoor
