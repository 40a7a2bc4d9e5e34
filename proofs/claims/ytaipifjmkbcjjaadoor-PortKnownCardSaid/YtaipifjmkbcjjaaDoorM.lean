/- Walks: ports, events. -/
import Derived.Test.YtaipifjmkbcjjaaDoorE
namespace Go.Proofs.YtaipifjmkbcjjaaDoor
open Go.RowKit Go.Sort

theorem bool_ret {a b : Bool} (h : a = b) : Ending.returned (.bool a) = .returned (.bool b) := by rw [h]

/-- A configuration's cells: what matters of it, and the rest. -/
abbrev cfgA (f c : Int) (x : Nat → Value) : Array Value :=
  #[.int .i64 f, x 1, .int .i64 c, x 3, x 4, x 5, x 6, x 7, x 8, x 9, x 10, x 11, x 12, x 13, x 14, x 15, x 16, x 17, x 18, x 19, x 20, x 21, x 22, x 23, x 24]

theorem tmod_bound (n m : Int) (hm : 1 ≤ m) : -m < n.tmod m ∧ n.tmod m < m := by
  have h1 := Int.tmod_lt_of_pos n (show 0 < m by omega)
  have h2 : -m < n.tmod m := by
    have := Int.tmod_lt_of_pos (-n) (show 0 < m by omega)
    rw [Int.neg_tmod] at this; omega
  exact ⟨h2, h1⟩
theorem tmod_mod (n m : Int) (hm : 1 ≤ m) : n % m = if n.tmod m < 0 then n.tmod m + m else n.tmod m := by
  obtain ⟨h2, h1⟩ := tmod_bound n m hm
  have e : n % m = n.tmod m % m := by
    have := Int.mul_tdiv_add_tmod n m
    conv => lhs; rw [← this]
    rw [Int.mul_add_emod_self_left]
  rw [e]
  split
  · rw [← Int.add_emod_right, Int.emod_eq_of_lt (by omega) (by omega)]
  · exact Int.emod_eq_of_lt (by omega) h1

theorem mod_any (n m : Int) (w : World) (hm : 1 ≤ m) (hm2 : m ≤ 4611686018427387904) :
    Calls Tryd.prog 18 #[.int .i64 n, .int .i64 m] w fun e w' => e = .returned (.int .i64 (n % m)) ∧ w = w' := by
  obtain ⟨hb1, hb2⟩ := tmod_bound n m hm
  have hmod := Lib.hid (tmod_mod n m hm)
  by_cases h : n.tmod m < 0
  · go_enter Tryd.func18, Tryd.ntmps18
    go_wp2
    go_ret
    refine ⟨ret_int ?_, rfl⟩
    rw [hmod.out, if_pos h]
  · go_enter Tryd.func18, Tryd.ntmps18
    go_wp2
    go_ret
    exact ⟨ret_int (by rw [hmod.out, if_neg (by omega)]), rfl⟩

theorem is_any (p : Int) (w : World) :
    Calls Tryd.prog 61 #[.int .i64 p] w fun e w' => e = .returned (.bool (decide (0 ≤ p ∧ p < 24))) ∧ w = w' := by
  go_enter Tryd.func61, Tryd.ntmps61
  go_wp2
  all_goals
    go_ret
    refine ⟨bool_ret ?_, rfl⟩
    simp
    try omega

/-- The domain of a port. -/
theorem domain_ok (p : Int) (w : World) (h0 : 0 ≤ p) (h1 : p < 24) :
    Calls Tryd.prog 19 #[.int .i64 p] w fun e w' => e = .returned (.tuple #[.int .i64 (1 + p / 8), .int .i64 0]) ∧ w = w' := by
  have hd : decide (0 ≤ p ∧ p < 24) = true := by simp; omega
  go_enter Tryd.func19, Tryd.ntmps19
  go_wp2_with (go_at_call 61; refine (is_any _ _).mono ?_; rintro e w' ⟨rfl, rfl⟩)
  go_ret2
  exact ⟨rfl, rfl⟩
theorem domain_bad (p : Int) (w : World) (h : ¬ (0 ≤ p ∧ p < 24)) :
    Calls Tryd.prog 19 #[.int .i64 p] w fun e w' => e = .returned (.tuple #[.int .i64 0, .int .i64 2]) ∧ w = w' := by
  have hd : decide (0 ≤ p ∧ p < 24) = false := by simpa using h
  clear h
  go_enter Tryd.func19, Tryd.ntmps19
  go_wp2_with (go_at_call 61; refine (is_any _ _).mono ?_; rintro e w' ⟨rfl, rfl⟩)
  go_ret2
  exact ⟨rfl, rfl⟩

/-- From low to high. -/
def inB (n l h : Int) : Bool := decide (l ≤ n) && decide (n ≤ h)
theorem in_any (n l h : Int) (w : World) :
    Calls Tryd.prog 83 #[.int .i64 n, .int .i64 l, .int .i64 h] w fun e w' => e = .returned (.bool (inB n l h)) ∧ w = w' := by
  go_enter Tryd.func83, Tryd.ntmps83
  go_wp2
  all_goals
    go_ret
    refine ⟨bool_ret ?_, rfl⟩
    simp [inB]
    try omega

def vErr (f c : Int) : Int := if f < 2 ∨ 64 < f ∨ c < 1 ∨ 8 < c then 2 else 0

set_option maxHeartbeats 400000 in
theorem valid_any (f c : Int) (x : Nat → Value) (w : World) :
    Calls Tryd.prog 62 #[.agg (cfgA f c x)] w fun e w' => e = .returned (.int .i64 (vErr f c)) ∧ Below w.heap.size w w' := by
  go_enter Tryd.func62, Tryd.ntmps62
  go_wp2
  all_goals
    go_ret
    refine ⟨ret_int ?_, (Below.refl _ _).alloc (Nat.le_refl _) _⟩
    unfold vErr
    split <;> omega


/-- What an event is, as a value of its own type. -/
def evV (k a b : Int) : Value :=
  if k = 1 then .iface 127 (.agg #[.int .i64 a, .int .i64 b]) else if k = 2 then .iface 129 (.agg #[.int .i64 a, .int .i64 b])
  else if k = 3 then .iface 131 (.agg #[.int .i64 a, .int .i64 b]) else if k = 4 then .iface 133 (.agg #[.int .i64 a, .int .i64 b]) else .nilIface

theorem below_alloc (w : World) (o : Obj) : Below w.heap.size w (w.alloc o) := (Below.refl _ _).alloc (Nat.le_refl _) _

set_option maxHeartbeats 400000 in
theorem event_any (k a b : Int) (v : Value) (w : World) (hv : evV k a b = v) :
    Calls Tryd.prog 82 #[.agg #[.int .i64 k, .int .i64 a, .int .i64 b]] w fun e w' => e = .returned v ∧ Below w.heap.size w w' := by
  have HV := Lib.hid hv
  clear hv
  by_cases h1 : k = 1
  · subst h1
    go_enter Tryd.func82, Tryd.ntmps82
    go_wp2
    go_ret
    exact ⟨by rw [← HV.out]; rfl, below_alloc _ _⟩
  · have e1 : (k == 1) = false := by simpa using h1
    by_cases h2 : k = 2
    · subst h2
      go_enter Tryd.func82, Tryd.ntmps82
      go_wp2
      go_ret
      exact ⟨by rw [← HV.out]; rfl, below_alloc _ _⟩
    · have e2 : (k == 2) = false := by simpa using h2
      by_cases h3 : k = 3
      · subst h3
        go_enter Tryd.func82, Tryd.ntmps82
        go_wp2
        go_ret
        exact ⟨by rw [← HV.out]; rfl, below_alloc _ _⟩
      · have e3 : (k == 3) = false := by simpa using h3
        by_cases h4 : k = 4
        · subst h4
          go_enter Tryd.func82, Tryd.ntmps82
          go_wp2
          go_ret
          exact ⟨by rw [← HV.out]; rfl, below_alloc _ _⟩
        · have e4 : (k == 4) = false := by simpa using h4
          have HN : Hid (v = .nilIface) := by show v = _; rw [← HV.out, evV, if_neg h1, if_neg h2, if_neg h3, if_neg h4]
          go_enter Tryd.func82, Tryd.ntmps82
          go_wp2
          go_ret
          exact ⟨by rw [HN.out]; rfl, below_alloc _ _⟩

/-- Whether an event fits a configuration. -/
def fitsB (f c k a b : Int) : Bool :=
  if k = 1 then inB a 0 (f - 1) && inB b 1 2 else if k = 2 then inB a 1 c && inB b 0 (f - 1)
  else if k = 3 then inB a 1 99 && b == 0 else if k = 4 then inB a 1 c && inB b 0 3 else false

theorem ta127_127 (v : Value) (w : World) : (Instr.typeAssert (.iface 127 v) 20 127 true).run Tryd.prog w = .ok (.tuple #[v, .bool true]) w := by kernel_rfl
theorem ta127_129 (v : Value) (w : World) : (Instr.typeAssert (.iface 129 v) 20 127 true).run Tryd.prog w = .ok (.tuple #[.agg #[.int .i64 0, .int .i64 0], .bool false]) w := by kernel_rfl
theorem ta127_131 (v : Value) (w : World) : (Instr.typeAssert (.iface 131 v) 20 127 true).run Tryd.prog w = .ok (.tuple #[.agg #[.int .i64 0, .int .i64 0], .bool false]) w := by kernel_rfl
theorem ta127_133 (v : Value) (w : World) : (Instr.typeAssert (.iface 133 v) 20 127 true).run Tryd.prog w = .ok (.tuple #[.agg #[.int .i64 0, .int .i64 0], .bool false]) w := by kernel_rfl
theorem ta127_0 (w : World) : (Instr.typeAssert .nilIface 20 127 true).run Tryd.prog w = .ok (.tuple #[.agg #[.int .i64 0, .int .i64 0], .bool false]) w := by kernel_rfl
theorem ta129_129 (v : Value) (w : World) : (Instr.typeAssert (.iface 129 v) 20 129 true).run Tryd.prog w = .ok (.tuple #[v, .bool true]) w := by kernel_rfl
theorem ta129_131 (v : Value) (w : World) : (Instr.typeAssert (.iface 131 v) 20 129 true).run Tryd.prog w = .ok (.tuple #[.agg #[.int .i64 0, .int .i64 0], .bool false]) w := by kernel_rfl
theorem ta129_133 (v : Value) (w : World) : (Instr.typeAssert (.iface 133 v) 20 129 true).run Tryd.prog w = .ok (.tuple #[.agg #[.int .i64 0, .int .i64 0], .bool false]) w := by kernel_rfl
theorem ta129_0 (w : World) : (Instr.typeAssert .nilIface 20 129 true).run Tryd.prog w = .ok (.tuple #[.agg #[.int .i64 0, .int .i64 0], .bool false]) w := by kernel_rfl
theorem ta131_131 (v : Value) (w : World) : (Instr.typeAssert (.iface 131 v) 20 131 true).run Tryd.prog w = .ok (.tuple #[v, .bool true]) w := by kernel_rfl
theorem ta131_133 (v : Value) (w : World) : (Instr.typeAssert (.iface 133 v) 20 131 true).run Tryd.prog w = .ok (.tuple #[.agg #[.int .i64 0, .int .i64 0], .bool false]) w := by kernel_rfl
theorem ta131_0 (w : World) : (Instr.typeAssert .nilIface 20 131 true).run Tryd.prog w = .ok (.tuple #[.agg #[.int .i64 0, .int .i64 0], .bool false]) w := by kernel_rfl
theorem ta133_133 (v : Value) (w : World) : (Instr.typeAssert (.iface 133 v) 20 133 true).run Tryd.prog w = .ok (.tuple #[v, .bool true]) w := by kernel_rfl
theorem ta133_0 (w : World) : (Instr.typeAssert .nilIface 20 133 true).run Tryd.prog w = .ok (.tuple #[.agg #[.int .i64 0, .int .i64 0], .bool false]) w := by kernel_rfl
attribute [local go_sem] ta127_127 ta127_129 ta127_131 ta127_133 ta127_0 ta129_129 ta129_131 ta129_133 ta129_0 ta131_131 ta131_133 ta131_0 ta133_133 ta133_0

set_option maxRecDepth 100000 in
set_option maxHeartbeats 400000 in
theorem fits_1 (f c a b : Int) (x : Nat → Value) (w : World) (hf : 2 ≤ f) (hf2 : f ≤ 64) :
    Calls Tryd.prog 63 #[.agg (cfgA f c x), .agg #[.int .i64 1, .int .i64 a, .int .i64 b]] w fun e w' => e = .returned (.bool (fitsB f c 1 a b)) ∧ Below w.heap.size w w' := by
  have HB : Hid (fitsB f c 1 a b = (inB a 0 (f - 1) && inB b 1 2)) := rfl
  cases hi : inB a 0 (f - 1)
  all_goals
    rw [hi] at HB
    go_enter Tryd.func63, Tryd.ntmps63
    go_wp2_with fail
    refine (event_any 1 a b (.iface 127 (.agg #[.int .i64 a, .int .i64 b])) _ rfl).mono ?_
    rintro e w1 ⟨rfl, hb⟩
    have hz : w.heap.size + 2 ≤ w1.heap.size := by have := hb.size; simpa using this
    have hne : ¬ w.heap.size = w1.heap.size := by omega
    have c0 : w1.cell? ⟨w.heap.size, 0, none⟩ = some (.int .i64 f) := cell_below hb (by simp only [World.size_alloc]; omega) (cell_alloc_old (by simp) (by simp))
    have c2 : w1.cell? ⟨w.heap.size, 2, none⟩ = some (.int .i64 c) := cell_below hb (by simp only [World.size_alloc]; omega) (cell_alloc_old (by simp) (by simp))
    have HW := Lib.hid ((((Below.refl _ _).alloc (Nat.le_refl _) (.cells (cfgA f c x) 40)).alloc (by simp) (.cells #[.int .i64 1, .int .i64 a, .int .i64 b] 43)).trans (hb.mono (by simp; omega)))
    have c0' : (w1.alloc (.cells #[.int .i64 a, .int .i64 b] 127)).cell? ⟨w.heap.size, 0, none⟩ = some (.int .i64 f) := cell_alloc_old (by omega) c0
    have c2' : (w1.alloc (.cells #[.int .i64 a, .int .i64 b] 127)).cell? ⟨w.heap.size, 2, none⟩ = some (.int .i64 c) := cell_alloc_old (by omega) c2
    clear c0 c2
    clear hb
    go_wp2_with (go_at_call 83; refine (in_any _ _ _ _).mono ?_; rintro e w' ⟨rfl, rfl⟩)
    go_ret
    exact ⟨by rw [HB.out]; rfl, HW.out.alloc HW.out.size _⟩

set_option maxRecDepth 100000 in
set_option maxHeartbeats 400000 in
theorem fits_2 (f c a b : Int) (x : Nat → Value) (w : World) (hf : 2 ≤ f) (hf2 : f ≤ 64) :
    Calls Tryd.prog 63 #[.agg (cfgA f c x), .agg #[.int .i64 2, .int .i64 a, .int .i64 b]] w fun e w' => e = .returned (.bool (fitsB f c 2 a b)) ∧ Below w.heap.size w w' := by
  have HB : Hid (fitsB f c 2 a b = (inB a 1 c && inB b 0 (f - 1))) := rfl
  cases hi : inB a 1 c
  all_goals
    rw [hi] at HB
    go_enter Tryd.func63, Tryd.ntmps63
    go_wp2_with fail
    refine (event_any 2 a b (.iface 129 (.agg #[.int .i64 a, .int .i64 b])) _ rfl).mono ?_
    rintro e w1 ⟨rfl, hb⟩
    have hz : w.heap.size + 2 ≤ w1.heap.size := by have := hb.size; simpa using this
    have hne : ¬ w.heap.size = w1.heap.size := by omega
    have c0 : w1.cell? ⟨w.heap.size, 0, none⟩ = some (.int .i64 f) := cell_below hb (by simp only [World.size_alloc]; omega) (cell_alloc_old (by simp) (by simp))
    have c2 : w1.cell? ⟨w.heap.size, 2, none⟩ = some (.int .i64 c) := cell_below hb (by simp only [World.size_alloc]; omega) (cell_alloc_old (by simp) (by simp))
    have HW := Lib.hid ((((Below.refl _ _).alloc (Nat.le_refl _) (.cells (cfgA f c x) 40)).alloc (by simp) (.cells #[.int .i64 2, .int .i64 a, .int .i64 b] 43)).trans (hb.mono (by simp; omega)))
    have c0' : (w1.alloc (.cells #[.int .i64 a, .int .i64 b] 129)).cell? ⟨w.heap.size, 0, none⟩ = some (.int .i64 f) := cell_alloc_old (by omega) c0
    have c2' : (w1.alloc (.cells #[.int .i64 a, .int .i64 b] 129)).cell? ⟨w.heap.size, 2, none⟩ = some (.int .i64 c) := cell_alloc_old (by omega) c2
    clear c0 c2
    clear hb
    go_wp2_with (go_at_call 83; refine (in_any _ _ _ _).mono ?_; rintro e w' ⟨rfl, rfl⟩)
    go_ret
    exact ⟨by rw [HB.out]; rfl, HW.out.alloc HW.out.size _⟩

set_option maxRecDepth 100000 in
set_option maxHeartbeats 400000 in
theorem fits_3 (f c a b : Int) (x : Nat → Value) (w : World) :
    Calls Tryd.prog 63 #[.agg (cfgA f c x), .agg #[.int .i64 3, .int .i64 a, .int .i64 b]] w fun e w' => e = .returned (.bool (fitsB f c 3 a b)) ∧ Below w.heap.size w w' := by
  have HB : Hid (fitsB f c 3 a b = (inB a 1 99 && b == 0)) := rfl
  cases hi : inB a 1 99
  all_goals
    rw [hi] at HB
    go_enter Tryd.func63, Tryd.ntmps63
    go_wp2_with fail
    refine (event_any 3 a b (.iface 131 (.agg #[.int .i64 a, .int .i64 b])) _ rfl).mono ?_
    rintro e w1 ⟨rfl, hb⟩
    have hz : w.heap.size + 2 ≤ w1.heap.size := by have := hb.size; simpa using this
    have hne : ¬ w.heap.size = w1.heap.size := by omega
    have c0 : w1.cell? ⟨w.heap.size, 0, none⟩ = some (.int .i64 f) := cell_below hb (by simp only [World.size_alloc]; omega) (cell_alloc_old (by simp) (by simp))
    have c2 : w1.cell? ⟨w.heap.size, 2, none⟩ = some (.int .i64 c) := cell_below hb (by simp only [World.size_alloc]; omega) (cell_alloc_old (by simp) (by simp))
    have HW := Lib.hid ((((Below.refl _ _).alloc (Nat.le_refl _) (.cells (cfgA f c x) 40)).alloc (by simp) (.cells #[.int .i64 3, .int .i64 a, .int .i64 b] 43)).trans (hb.mono (by simp; omega)))
    have c0' : (w1.alloc (.cells #[.int .i64 a, .int .i64 b] 131)).cell? ⟨w.heap.size, 0, none⟩ = some (.int .i64 f) := cell_alloc_old (by omega) c0
    have c2' : (w1.alloc (.cells #[.int .i64 a, .int .i64 b] 131)).cell? ⟨w.heap.size, 2, none⟩ = some (.int .i64 c) := cell_alloc_old (by omega) c2
    clear c0 c2
    clear hb
    go_wp2_with (go_at_call 83; refine (in_any _ _ _ _).mono ?_; rintro e w' ⟨rfl, rfl⟩)
    go_ret
    exact ⟨by rw [HB.out]; rfl, HW.out.alloc HW.out.size _⟩

set_option maxRecDepth 100000 in
set_option maxHeartbeats 400000 in
theorem fits_4 (f c a b : Int) (x : Nat → Value) (w : World) :
    Calls Tryd.prog 63 #[.agg (cfgA f c x), .agg #[.int .i64 4, .int .i64 a, .int .i64 b]] w fun e w' => e = .returned (.bool (fitsB f c 4 a b)) ∧ Below w.heap.size w w' := by
  have HB : Hid (fitsB f c 4 a b = (inB a 1 c && inB b 0 3)) := rfl
  cases hi : inB a 1 c
  all_goals
    rw [hi] at HB
    go_enter Tryd.func63, Tryd.ntmps63
    go_wp2_with fail
    refine (event_any 4 a b (.iface 133 (.agg #[.int .i64 a, .int .i64 b])) _ rfl).mono ?_
    rintro e w1 ⟨rfl, hb⟩
    have hz : w.heap.size + 2 ≤ w1.heap.size := by have := hb.size; simpa using this
    have hne : ¬ w.heap.size = w1.heap.size := by omega
    have c0 : w1.cell? ⟨w.heap.size, 0, none⟩ = some (.int .i64 f) := cell_below hb (by simp only [World.size_alloc]; omega) (cell_alloc_old (by simp) (by simp))
    have c2 : w1.cell? ⟨w.heap.size, 2, none⟩ = some (.int .i64 c) := cell_below hb (by simp only [World.size_alloc]; omega) (cell_alloc_old (by simp) (by simp))
    have HW := Lib.hid ((((Below.refl _ _).alloc (Nat.le_refl _) (.cells (cfgA f c x) 40)).alloc (by simp) (.cells #[.int .i64 4, .int .i64 a, .int .i64 b] 43)).trans (hb.mono (by simp; omega)))
    have c0' : (w1.alloc (.cells #[.int .i64 a, .int .i64 b] 133)).cell? ⟨w.heap.size, 0, none⟩ = some (.int .i64 f) := cell_alloc_old (by omega) c0
    have c2' : (w1.alloc (.cells #[.int .i64 a, .int .i64 b] 133)).cell? ⟨w.heap.size, 2, none⟩ = some (.int .i64 c) := cell_alloc_old (by omega) c2
    clear c0 c2
    clear hb
    go_wp2_with (go_at_call 83; refine (in_any _ _ _ _).mono ?_; rintro e w' ⟨rfl, rfl⟩)
    go_ret
    exact ⟨by rw [HB.out]; rfl, HW.out.alloc HW.out.size _⟩

set_option maxRecDepth 100000 in
set_option maxHeartbeats 400000 in
theorem fits_0 (f c k a b : Int) (x : Nat → Value) (w : World) (h1 : ¬ k = 1) (h2 : ¬ k = 2) (h3 : ¬ k = 3) (h4 : ¬ k = 4) :
    Calls Tryd.prog 63 #[.agg (cfgA f c x), .agg #[.int .i64 k, .int .i64 a, .int .i64 b]] w fun e w' => e = .returned (.bool (fitsB f c k a b)) ∧ Below w.heap.size w w' := by
  have HB : Hid (fitsB f c k a b = false) := by show _ = _; simp [fitsB, h1, h2, h3, h4]
  have HE : Hid (evV k a b = .nilIface) := by show _ = _; simp [evV, h1, h2, h3, h4]
  go_enter Tryd.func63, Tryd.ntmps63
  go_wp2_with fail
  refine (event_any k a b .nilIface _ HE.out).mono ?_
  rintro e w1 ⟨rfl, hb⟩
  have HW := Lib.hid ((((Below.refl _ _).alloc (Nat.le_refl _) (.cells (cfgA f c x) 40)).alloc (by simp) (.cells #[.int .i64 k, .int .i64 a, .int .i64 b] 43)).trans (hb.mono (by simp; omega)))
  clear hb
  go_wp2
  go_ret
  exact ⟨by rw [HB.out]; rfl, HW.out⟩

theorem fits_any (f c k a b : Int) (x : Nat → Value) (w : World) (hf : 2 ≤ f) (hf2 : f ≤ 64) :
    Calls Tryd.prog 63 #[.agg (cfgA f c x), .agg #[.int .i64 k, .int .i64 a, .int .i64 b]] w fun e w' => e = .returned (.bool (fitsB f c k a b)) ∧ Below w.heap.size w w' := by
  by_cases h1 : k = 1
  · subst h1; exact fits_1 f c a b x w hf hf2
  · by_cases h2 : k = 2
    · subst h2; exact fits_2 f c a b x w hf hf2
    · by_cases h3 : k = 3
      · subst h3; exact fits_3 f c a b x w
      · by_cases h4 : k = 4
        · subst h4; exact fits_4 f c a b x w
        · exact fits_0 f c k a b x w h1 h2 h3 h4

end Go.Proofs.YtaipifjmkbcjjaaDoor
