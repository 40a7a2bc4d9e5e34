/- Plain words and walks: streams made of numbers; 'At'. -/
import Derived.Test.YtaipifjmkbcjjaaDoorJn
namespace Go.Proofs.YtaipifjmkbcjjaaDoor
open Go.RowKit Go.Sort

theorem join_sees {v : Value} {fs : List Fr} {w : World} (S : SeesF w v fs) (hm : fs.length ≤ 1000) (hg : Glob w) :
    Calls Tryd.prog 56 #[v] w fun e w' => e = .returned (.tuple #[.string (bs (joinS fs).1), .int .i64 (joinS fs).2]) ∧ RowKit.Below w.heap.size w w' := by
  obtain ⟨ao, cap, rfl, hc⟩ := S
  rcases Nat.eq_zero_or_pos fs.length with h0 | h0
  · obtain rfl := List.eq_nil_of_length_eq_zero h0
    exact join_cells 0 0 cap [] (by simp) w hg (fun k j u _ hk => by simp at hk) ao (fun h => by simp at h)
  · obtain ⟨b, off, rfl, hx⟩ := hc h0
    exact join_cells b off cap fs hm w hg hx _ (fun _ => rfl)

theorem at_in (x : Addr) (len cap i : Nat) (v : Int) (w : World) (hi : i < len) (hc : w.cell? (x.add i) = some (.int .i64 v)) :
    Calls Tryd.prog 55 #[.slice (some x) len cap, .int .i64 i] w fun e w' => e = .returned (.int .i64 v) ∧ w = w' := by
  have a1 : decide ((i : Int) < 0) = false := by simp
  have a2 : decide ((len : Int) ≤ (i : Int)) = false := by simp; omega
  have a3 : (0 : Int) ≤ i := by omega
  have a4 : (i : Int) < len := by omega
  go_enter Tryd.func55, Tryd.ntmps55
  go_wp2
  go_ret
  exact ⟨by first | rfl | trivial, by first | rfl | trivial⟩
theorem at_out (a : Option Addr) (len cap i : Nat) (w : World) (hi : len ≤ i) :
    Calls Tryd.prog 55 #[.slice a len cap, .int .i64 i] w fun e w' => e = .returned (.int .i64 0) ∧ w = w' := by
  have a1 : decide ((i : Int) < 0) = false := by simp
  have a2 : decide ((len : Int) ≤ (i : Int)) = true := by simp; omega
  go_enter Tryd.func55, Tryd.ntmps55
  go_wp2
  go_ret
  exact ⟨by first | rfl | trivial, by first | rfl | trivial⟩

def junkB : ByteArray := ⟨#[120, 59, 48, 44, 80, 255, 10, 32, 104]⟩
def junkT : List UInt8 := [120, 59, 48, 44, 80, 255, 10, 32, 104]
def gapN (j : Int) : Nat := (j % 64 % 10).toNat
def mFr (n : Int) : Fr := madeM (n % 16777216)
theorem mFr_ok (n : Int) : okF (mFr n) := madeM_ok _
def strm (ns js : Nat → Int) : Nat → List UInt8
  | 0 => []
  | k + 1 => strm ns js k ++ (junkT.take (gapN (js k)) ++ formF (mFr (ns k)))
def frs (ns : Nat → Int) : Nat → List Fr
  | 0 => []
  | k + 1 => frs ns k ++ [mFr (ns k)]
def gps (js : Nat → Int) : Nat → Nat
  | 0 => 0
  | k + 1 => gps js k + gapN (js k)
def its (ns js : Nat → Int) : Nat → List (Fr × Nat)
  | 0 => []
  | k + 1 => its ns js k ++ (List.replicate (gapN (js k)) (fr0, 1) ++ [(mFr (ns k), fl (mFr (ns k)))])

theorem gapN_le (j : Int) : gapN j ≤ 9 := by unfold gapN; omega
theorem junk_in (k : Nat) : ∀ c ∈ junkT.take k, c ≠ 60 := by
  intro c hc
  have h := List.mem_of_mem_take hc
  have : ∀ c ∈ junkT, c ≠ 60 := by decide
  exact this c h

theorem items_strm (ns js : Nat → Int) : ∀ (k : Nat) (t : List UInt8), items (strm ns js k ++ t) = its ns js k ++ items t
  | 0, t => rfl
  | k + 1, t => by
    show items ((strm ns js k ++ (junkT.take (gapN (js k)) ++ formF (mFr (ns k)))) ++ t) = (its ns js k ++ (List.replicate (gapN (js k)) (fr0, 1) ++ [(mFr (ns k), fl (mFr (ns k)))])) ++ items t
    rw [List.append_assoc, items_strm ns js k, List.append_assoc, items_junk _ _ (junk_in _)]
    have h := items_form (mFr (ns k)) (mFr_ok _) t
    have e : items (formF (mFr (ns k)) ++ t) = (mFr (ns k), fl (mFr (ns k))) :: items t := h
    rw [e, List.length_take, show min (gapN (js k)) junkT.length = gapN (js k) by have := gapN_le (js k); show min _ 9 = _; omega]
    simp
theorem fl_pos (f : Fr) : 10 ≤ fl f := by
  have h1 := form_len f.t f.k f.a f.b
  have h2 := pay_len f.t f.k f.a f.b
  unfold fl; omega
theorem its_frames (ns js : Nat → Int) : ∀ k, framesOf (its ns js k) = frs ns k
  | 0 => rfl
  | k + 1 => by
    show framesOf (its ns js k ++ (List.replicate (gapN (js k)) (fr0, 1) ++ [(mFr (ns k), fl (mFr (ns k)))])) = frs ns k ++ [mFr (ns k)]
    rw [framesOf_app, its_frames ns js k, framesOf_app, framesOf_rep, framesOf_cons _ _ (by have := fl_pos (mFr (ns k)); show 1 < fl _; omega)]
    rfl
theorem its_junk (ns js : Nat → Int) : ∀ k, junkOf (its ns js k) = gps js k
  | 0 => rfl
  | k + 1 => by
    show junkOf (its ns js k ++ (List.replicate (gapN (js k)) (fr0, 1) ++ [(mFr (ns k), fl (mFr (ns k)))])) = gps js k + gapN (js k)
    rw [junkOf_app, its_junk ns js k, junkOf_app, junkOf_rep, junkOf_cons _ _ (by have := fl_pos (mFr (ns k)); show 1 < fl _; omega)]
    rfl
theorem strm_items (ns js : Nat → Int) (k : Nat) : framesOf (items (strm ns js k)) = frs ns k ∧ junkOf (items (strm ns js k)) = gps js k := by
  have h := items_strm ns js k []
  rw [List.append_nil, items_nil, List.append_nil] at h
  rw [h]; exact ⟨its_frames ns js k, its_junk ns js k⟩
theorem strm_len (ns js : Nat → Int) : ∀ k, (strm ns js k).length ≤ 21 * k
  | 0 => by simp [strm]
  | k + 1 => by
    show (strm ns js k ++ (junkT.take (gapN (js k)) ++ formF (mFr (ns k)))).length ≤ _
    rw [List.length_append, List.length_append, List.length_take]
    have := strm_len ns js k
    have := formF_len (mFr (ns k))
    have := gapN_le (js k)
    omega
theorem gps_le (js : Nat → Int) : ∀ k, gps js k ≤ 9 * k
  | 0 => by simp [gps]
  | k + 1 => by
    show gps js k + gapN (js k) ≤ _
    have := gps_le js k
    have := gapN_le (js k)
    omega
theorem frs_len (ns : Nat → Int) : ∀ k, (frs ns k).length = k
  | 0 => rfl
  | k + 1 => by show (frs ns k ++ [_]).length = _; rw [List.length_append, frs_len ns k]; rfl
theorem frs_ok (ns : Nat → Int) : ∀ k, ∀ f ∈ frs ns k, chkF f = 0
  | 0, f, h => by cases h
  | k + 1, f, h => by
    rcases List.mem_append.1 h with h | h
    · exact frs_ok ns k f h
    · rw [List.mem_singleton.1 h]; exact mFr_ok _
theorem join_items : ∀ fs : List Fr, (∀ f ∈ fs, chkF f = 0) → framesOf (items (fs.flatMap formF)) = fs ∧ junkOf (items (fs.flatMap formF)) = 0
  | [], _ => ⟨rfl, rfl⟩
  | f :: fs, h => by
    obtain ⟨i1, i2⟩ := join_items fs (fun g hg => h g (by simp [hg]))
    rw [List.flatMap_cons]
    have e : items (formF f ++ fs.flatMap formF) = (f, fl f) :: items (fs.flatMap formF) := items_form f (h f (by simp)) _
    have hp := fl_pos f
    rw [e, framesOf_cons _ _ (show 1 < fl f by omega), junkOf_cons _ _ (show 1 < fl f by omega), i1, i2]
    exact ⟨rfl, rfl⟩
end Go.Proofs.YtaipifjmkbcjjaaDoor
