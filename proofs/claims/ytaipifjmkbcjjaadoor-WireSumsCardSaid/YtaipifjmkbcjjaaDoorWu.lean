/- Walks: WireSums. -/
import Derived.Test.YtaipifjmkbcjjaaDoorFy
import Derived.Test.YtaipifjmkbcjjaaDoorPl
import Derived.Test.YtaipifjmkbcjjaaDoorWs
import Derived.Deep.CutRange
import Derived.Deep.RegionLaw
import Derived.Laws.AppendOwnNone
import Derived.Deep.AppendLies
import Derived.Deep.RegionHeld3
namespace Go.Proofs.YtaipifjmkbcjjaaDoor
open Go.RowKit Go.Sort

theorem length_ok (f : Fr) (h : okF f) (w : World) (hg : Glob w) : Calls Tryd.prog 51 #[f.v] w fun e w' => e = .returned (.tuple #[.int .i64 (fl f), .int .i64 0]) ∧ Below w.heap.size w w' := by
  have h1 := length_any f.t f.k f.a f.b w hg
  have e : encF f.t f.k f.a f.b = (form f.t f.k f.a f.b, 0) := by unfold encF; rw [if_pos (show chk f.t f.k f.a f.b = 0 from h)]
  rw [e] at h1; exact h1

theorem bs_two (a b : ByteArray) : (a ++ b).data.toList = a.data.toList ++ b.data.toList := by simp

/-- A row is appended to a row of one's own, at a step of a region that draws. -/
theorem step_append_rows {P : Program} {ops : Array Oper} {w : World} {o : Oper} {a : Act} {K : Act → World → Prop} {Q : Exit → Act → World → Prop} {E : Prop} (hw : Region.wanted o (yielded ops a.tmps) = true) (s x : Operand) (t : TypeId)
    (ho : o.op = .call { callee := .builtin .append, args := #[s, x], argTypes := #[t, t] })
    (base base2 : Nat) (e : TypeId) (i : TypeInfo) (z : Value) (size bytes : Nat) (ht : P.underlying t = some (.slice e)) (hi : P.info? e = some i) (hz : i.zero = some z)
    (hsize : i.size = size) (hby : i.bytes = bytes) (hzs : z.cells.size = size) (hsz : 0 < size)
    (v v2 : Value) (n m : Nat) (xs news : List Value) (hs : a.eval s = v) (hown : w.ownsRow base e size v n xs)
    (hx : a.eval x = v2) (hown2 : w.ownsRow base2 e size v2 m news) (h1 : ∀ u ∈ news, u.oneCell' = true)
    (h63 : n + m ≤ maxLen) (hbytes : (n + m) * bytes ≤ 140737488355328) (hbase : base ≤ w.heap.size)
    (h : ∀ v' w', w'.ownsRow base e size v' (n + m) (xs ++ news) → w.grownBy w' v.ownBlock → K (a.put o.dst v') w') :
    if Region.wanted o (yielded ops a.tmps) = true then Oper.wp P o a w K Q else E := by
  rw [if_pos hw]
  rcases hown2.2 with ⟨rfl, hm0⟩ | ⟨g, cap, cur, rfl, hbg, hg, hnc, hcm, hcs, htake⟩
  · have hn0 : news = [] := List.eq_nil_of_length_eq_zero (by rw [hown2.1, hm0, Nat.zero_mul])
    subst hm0 hn0
    have hrun := run_append_owned_none (P := P) (w := w) base t o.type e i size ht hi v n xs hown
    unfold Oper.wp
    simp [execOp, ho, resolve, invoke, builtin, hs, hx, hrun, Result.andThen]
    refine h _ _ (by rw [Nat.add_zero, List.append_nil]; exact hown) ⟨rfl, rfl, rfl, Nat.le_refl _, fun _ _ _ => rfl⟩
  · obtain ⟨v', w', hrun, r1, r2, _⟩ := run_append_own (P := P) w base t o.type e i z size bytes ht hi hz hsize hby hzs hsz v n xs hown ⟨g, 0, none⟩ m cap news hown2.1 (hown2.cells rfl) h1 h63 hbytes hbase
    unfold Oper.wp
    simp [execOp, ho, resolve, invoke, builtin, hs, hx, hrun, Result.andThen]
    exact h _ _ r1 r2

theorem flat_one (fs : List Fr) : ∀ u ∈ flat fs, u.oneCell' = true := by
  intro u hu
  unfold flat at hu
  rw [List.mem_flatMap] at hu
  obtain ⟨f, -, hf⟩ := hu
  simp at hf
  rcases hf with rfl | rfl | rfl | rfl <;> rfl
theorem flat_app (a b : List Fr) : flat (a ++ b) = flat a ++ flat b := by simp [flat]

theorem apart {W W' : World} {b1 n m : Nat} {v v' : Value} {xs ys : List Value} (h3 : W.ownsRow b1 68 4 v n xs) (h : W'.ownsRow W.heap.size 68 4 v' m ys) : v.ownBlock = none ∨ v.ownBlock ≠ v'.ownBlock := by
  cases e : v.ownBlock with
  | none => left; rfl
  | some b => right; intro e'; have h1 := h3.lt b e; have h2 := h.lt b e'.symm; omega
theorem apartN {W : World} {b1 n : Nat} {v : Value} {xs : List Value} (h3 : W.ownsRow b1 68 4 v n xs) : v.ownBlock = none ∨ v.ownBlock ≠ some W.heap.size := by
  cases e : v.ownBlock with
  | none => left; rfl
  | some b => right; intro e'; have h1 := h3.lt b e; cases e'; omega
theorem cell_b {W W' : World} {g o : Nat} {v : Value} (hb : Below W.heap.size W W') (h : W.cell? ⟨g, o, none⟩ = some v) : W'.cell? ⟨g, o, none⟩ = some v :=
  cell_below hb (World.block_lt_of_cell? W ⟨g, o, none⟩ h) h
theorem ne_own {W W' : World} {m g : Nat} {v' : Value} {ys : List Value} (hg : g < W.heap.size) (h : W'.ownsRow W.heap.size 68 4 v' m ys) : some g ≠ v'.ownBlock := fun e => by
  have := h.lt g e.symm; omega

theorem cell_app {W W' : World} {o : Obj} {g k : Nat} {v : Value} (h : W.cell? ⟨g, k, none⟩ = some v) (hg : (W.alloc o).grownBy W' (some W.heap.size)) : W'.cell? ⟨g, k, none⟩ = some v := by
  have hl : g < W.heap.size := World.block_lt_of_cell? W ⟨g, k, none⟩ h
  exact hg.cell (cell_alloc_old hl h) (fun e => by have e' : g = W.heap.size := Option.some.inj e; rw [e'] at hl; exact Nat.lt_irrefl _ hl)

theorem sum_take_le (l : List Nat) (k : Nat) : (l.take k).sum ≤ l.sum := by
  induction l generalizing k with
  | nil => simp
  | cons x l ih =>
    cases k with
    | zero => simp
    | succ k => rw [List.take_succ_cons, List.sum_cons, List.sum_cons]; have := ih k; omega
theorem sum_take_succ (l : List Nat) (k : Nat) (h : k < l.length) : (l.take (k + 1)).sum = (l.take k).sum + l.getD k 0 := by
  rw [List.take_add_one, List.getElem?_eq_getElem h, List.sum_append]
  simp [List.getD_eq_getElem?_getD, List.getElem?_eq_getElem h]

set_option maxRecDepth 100000 in
set_option maxHeartbeats 1500000 in
theorem WireSums_any (s t : ByteArray) (n : Int) (w : World) (hg : Glob w) :
    Calls Tryd.prog 15 #[.string s, .string t, .int .i64 n] w fun e w' => e = .returned (.bool true) ∧ Below w.heap.size w w' := by
  have haw : ∀ W, Below w.heap.size w W → Calls Tryd.prog 42 #[] W _ := fun W hb => awake06 W (hg.next hb)
  have HB := Lib.hid (Below.refl w.heap.size w)
  by_cases h1 : (100 : Int) < (s.size : Int)
  · have h1' : decide ((100 : Int) < (s.size : Int)) = true := by simpa using h1
    clear h1
    go_enter Tryd.func15, Tryd.ntmps15
    go_wp2_with (first
      | (go_at_call 42; refine (haw _ HB.out).mono ?_; rintro e w6 ⟨rfl, hb6⟩)
      | fail)
    go_ret
    exact ⟨by first | rfl | trivial, hb6⟩
  by_cases h2 : (100 : Int) < (t.size : Int)
  · have h1' : decide ((100 : Int) < (s.size : Int)) = false := by simpa using h1
    have h2' : decide ((100 : Int) < (t.size : Int)) = true := by simpa using h2
    clear h1 h2
    go_enter Tryd.func15, Tryd.ntmps15
    go_wp2_with (first
      | (go_at_call 42; refine (haw _ HB.out).mono ?_; rintro e w6 ⟨rfl, hb6⟩)
      | fail)
    go_ret
    exact ⟨by first | rfl | trivial, hb6⟩
  have h1' : decide ((100 : Int) < (s.size : Int)) = false := by simpa using h1
  have h2' : decide ((100 : Int) < (t.size : Int)) = false := by simpa using h2
  have hma := made_of n
  generalize n % 16777216 = m at *
  have hln := madeL_len m
  have hok := madeM_ok m
  have hen : ∀ W, Below w.heap.size w W → Calls Tryd.prog 48 #[(madeM m).v] W fun e w' => e = .returned (.tuple #[.string (bs (madeL m)), .int .i64 0]) ∧ Below W.heap.size W w' := fun W hb => encode_ok _ _ _ _ W hok (hg.next hb)
  have hsz : (bs (madeL m)).size = (madeL m).length := bs_size _
  have hsums := items_sums (madeM m) hok s.data.toList t.data.toList
  have hsum := items_sum _ (s.data.toList ++ madeL m) (Nat.le_refl _)
  have hfl1 : (framesOf (items (s.data.toList ++ madeL m))).length ≤ 112 := by
    have a1 := framesOf_len (items (s.data.toList ++ madeL m))
    have a2 := items_len _ (s.data.toList ++ madeL m) (Nat.le_refl _)
    rw [List.length_append] at a2; simp at a2; omega
  have hfl2 : (framesOf (items t.data.toList)).length ≤ 112 := by
    have a1 := framesOf_len (items t.data.toList)
    have a2 := items_len _ t.data.toList (Nat.le_refl _)
    simp at a2; omega
  have hl1 : s.data.toList.length = s.size := by simp
  have hl2 : t.data.toList.length = t.size := by simp
  have hsc1 : ∀ W, Below w.heap.size w W → Calls Tryd.prog 45 #[.string (s ++ bs (madeL m))] W _ := fun W hb => by
    have h := scan_any (s.data.toList ++ madeL m) (by rw [List.length_append]; omega) W (hg.next hb)
    rw [← bs_append, bs_of] at h; exact h
  have hsc2 : ∀ W, Below w.heap.size w W → Calls Tryd.prog 45 #[.string t] W _ := fun W hb => by
    have h := scan_any t.data.toList (by omega) W (hg.next hb)
    rw [bs_of] at h; exact h
  have hsc3 : ∀ W, Below w.heap.size w W → Calls Tryd.prog 45 #[.string (s ++ bs (madeL m) ++ t)] W _ := fun W hb => by
    have h := scan_any (s.data.toList ++ (madeL m ++ t.data.toList)) (by rw [List.length_append, List.length_append]; omega) W (hg.next hb)
    rw [← bs_append, ← bs_append, bs_of, bs_of, ← ByteArray.append_assoc] at h; exact h
  have e0 : madeL m = form (madeM m).t (madeM m).k (madeM m).a (madeM m).b := rfl
  rw [← e0] at hsums
  obtain ⟨hs1, hs2⟩ := hsums
  rw [hs1, framesOf_app, junkOf_app] at hsc3
  rw [List.length_append, hl1] at hsum
  have hlast : framesOf (items (s.data.toList ++ madeL m)) = framesOf (items s.data.toList) ++ [madeM m] := by
    rw [hs2, framesOf_hit]
    have : 10 ≤ fl (madeM m) := hln.1
    show (1 : Int) < (fl (madeM m) : Int)
    omega
  have hjb1 := junkOf_len (items (s.data.toList ++ madeL m))
  have hjb2 := junkOf_len (items t.data.toList)
  obtain ⟨hsumE, hokA⟩ := hsum
  have hml := hln
  generalize (madeL m).length = N at *
  generalize bs (madeL m) = x at *
  generalize hP : framesOf (items s.data.toList) = P at *
  generalize hA1 : framesOf (items (s.data.toList ++ madeL m)) = A1 at *
  generalize hA2 : framesOf (items t.data.toList) = A2 at *
  have hj1 : junkOf (items (s.data.toList ++ madeL m)) ≤ 112 := by omega
  have hj2 : junkOf (items t.data.toList) ≤ 112 := by
    have a2 := items_len _ t.data.toList (Nat.le_refl _)
    simp at a2; omega
  generalize junkOf (items (s.data.toList ++ madeL m)) = j1 at *
  generalize junkOf (items t.data.toList) = j2 at *
  clear hs1 hs2 hjb1 hjb2 h1 h2 e0 hok hl1 hl2
  subst hsz
  have n1 : ¬ 9223372036854775807 < s.size + x.size := by simp at h1'; omega
  have n2 : ¬ 9223372036854775807 < s.size + x.size + t.size := by simp at h1' h2'; omega
  have hP1 : 0 < A1.length := by rw [hlast]; simp
  have HLast := Lib.hid hlast
  clear hlast hP hA1 hA2
  go_enter Tryd.func15, Tryd.ntmps15
  go_upto_region 4 with (first
    | (go_at_call 49; refine (hma _).mono ?_; rintro e w1 ⟨rfl, hb1⟩; have HB1 := Lib.hid (HB.out.trans hb1); clear hb1)
    | (go_at_call 48; refine (hen _ HB1.out).mono ?_; rintro e w2 ⟨rfl, hb1⟩; have HB2 := Lib.hid (HB1.out.trans (hb1.mono HB1.out.size)); clear hb1)
    | fail)
  clear hen
  go_upto_region 5 with (first
    | (go_at_call 45; refine (hsc1 _ HB2.out).mono ?_; rintro e w3 ⟨v1, rfl, ho1, hb1⟩; have HB3 := Lib.hid (HB2.out.trans (hb1.mono HB2.out.size)); have HO1 := Lib.hid ho1; clear hb1 ho1)
    | fail)
  clear hsc1
  go_upto_region 6 with (first
    | (go_at_call 45; refine (hsc2 _ HB3.out).mono ?_; rintro e w4 ⟨v2, rfl, ho1, hb1⟩; have HB4 := Lib.hid (HB3.out.trans (hb1.mono HB3.out.size)); have HO2 := Lib.hid ho1; replace HO1 := Lib.hid (HO1.out.kept (grown_below (r := none) hb1) (by cases v1.ownBlock <;> simp)); clear hb1 ho1)
    | fail)
  clear hsc2
  go_upto_region 7 with (first
    | (go_at_call 45; refine (hsc3 _ HB4.out).mono ?_; rintro e w5 ⟨v3, rfl, ho1, hb1⟩; have HB5 := Lib.hid (HB4.out.trans (hb1.mono HB4.out.size)); have HO3 := Lib.hid ho1; replace HO1 := Lib.hid (HO1.out.kept (grown_below (r := none) hb1) (by cases v1.ownBlock <;> simp)); replace HO2 := Lib.hid (HO2.out.kept (grown_below (r := none) hb1) (by cases v2.ownBlock <;> simp)); clear hb1 ho1)
    | fail)
  clear hsc3
  obtain ⟨g1, cap1, rfl, -, -⟩ := HO1.out.form hP1
  generalize w2.heap.size + 5 = base1 at *
  generalize w3.heap.size + 5 = base2 at *
  generalize w4.heap.size + 5 = base3 at *
  obtain ⟨ns, hns⟩ : ∃ ns, A1.map fl = ns := ⟨_, rfl⟩
  rw [hns] at hsumE
  have hnl : ns.length = A1.length := by rw [← hns]; simp
  obtain ⟨ao, cap0, hv0, hsee⟩ := own_sees HO1.out
  obtain ⟨bb, off, hao, hcell⟩ := hsee hP1
  subst hao
  simp only [Value.slice.injEq, Option.some.injEq, Addr.mk.injEq] at hv0
  obtain ⟨⟨rfl, rfl, -⟩, -, rfl⟩ := hv0
  clear hsee
  have hlen : ∀ W, Below w.heap.size w W → ∀ k, k < A1.length → Calls Tryd.prog 51 #[(A1.getD k fr0).v] W fun e w' => e = .returned (.tuple #[.int .i64 (ns.getD k 0), .int .i64 0]) ∧ Below W.heap.size W w' := fun W hb k hk => by
    have e1 : A1.getD k fr0 = A1[k] := by simp [List.getD_eq_getElem?_getD, List.getElem?_eq_getElem hk]
    have h := length_ok (A1.getD k fr0) (hokA _ (by rw [e1]; exact List.getElem_mem hk)) W (hg.next hb)
    have e2 : ns.getD k 0 = fl (A1.getD k fr0) := by rw [← hns, e1]; simp [List.getD_eq_getElem?_getD, List.getElem?_eq_getElem hk]
    rw [e2]; exact h
  have hgl : g1 < w5.heap.size := by
    rcases hO : A1.getD 0 fr0 with ⟨y1, y2, y3, y4⟩
    exact World.block_lt_of_cell? w5 ⟨g1, 0 + 0 * 4 + 0, none⟩ (hcell 0 0 (.int .i64 y1) (by rw [hO]; rfl) hP1)
  go_wp2_with fail
  go_loopw [15, 16, 17, 18] (fun sm i _ _ wr => ∃ k : Nat, k ≤ A1.length ∧ i = .int .i64 k ∧ (∃ T : Nat, sm = .int .i64 (T : Int) ∧ Hid (T = j1 + (ns.take k).sum)) ∧ Hid (Below w5.heap.size w5 wr))
    (fun _ i _ _ _ => A1.length - (intOf i).toNat)
  case atStart => exact ⟨0, Nat.zero_le _, rfl, ⟨j1, rfl, by show _ = _; simp⟩, Below.refl _ _⟩
  case round =>
    obtain ⟨k, hk, rfl, ⟨T, rfl, HT⟩, HW⟩ := hrel
    by_cases hlt : k < A1.length
    · have a1 : (k : Int) < A1.length := by omega
      have a2 : (0 : Int) ≤ k := by omega
      have hcl := hlen wr (HB5.out.trans (HW.out.mono HB5.out.size)) k hlt
      have hsk := sum_take_succ ns k (by omega)
      have hsl := sum_take_le ns (k + 1)
      obtain ⟨f, hf⟩ : ∃ f, A1.getD k fr0 = f := ⟨_, rfl⟩
      obtain ⟨y, hy⟩ : ∃ y, ns.getD k 0 = y := ⟨_, rfl⟩
      have c0 := hcell k 0 (.int .i64 f.t) (by rw [hf]; rfl) hlt
      have c1 := hcell k 1 (.int .i64 f.k) (by rw [hf]; rfl) hlt
      have c2 := hcell k 2 (.int .i64 f.a) (by rw [hf]; rfl) hlt
      have c3 := hcell k 3 (.int .i64 f.b) (by rw [hf]; rfl) hlt
      rw [hf, hy] at hcl
      rw [hy] at hsk
      have q1 : ∀ a, wr.cell? ⟨g1, a, none⟩ = w5.cell? ⟨g1, a, none⟩ := fun a => HW.out.cell (p := ⟨g1, a, none⟩) hgl
      simp only [← q1, Nat.zero_add, Nat.add_zero] at c0 c1 c2 c3
      have hwr : IntKind.i64.wrap ((T : Int) + (y : Int)) = (T : Int) + (y : Int) := IntWalk.i64_in _ (by have := HT.out; simp at h1' h2'; omega)
      have HS := Lib.hid hsk
      clear hcell hlen q1 hsk hsl
      go_wp2_with (first
        | (go_at_call 51; refine hcl.mono ?_; rintro e w6 ⟨rfl, hb1⟩; have HW2 := Lib.hid (HW.out.trans (hb1.mono HW.out.size)); clear hb1)
        | fail)
      go_roundw
      case rel => exact ⟨k + 1, by omega, by go_num, ⟨T + y, by go_num, by show _ = _; rw [HS.out, HT.out]; omega⟩, HW2⟩
      case measure => simp [intOf]; omega
    · have a1 : ¬ (k : Int) < A1.length := by omega
      obtain rfl : k = A1.length := by omega
      have hT : T = s.size + x.size := by rw [HT.out, ← hsumE, ← hnl, List.take_length]
      subst hT
      obtain ⟨q, hq⟩ : ∃ q, A1.length = q + 1 := ⟨A1.length - 1, by omega⟩
      rcases hM : madeM m with ⟨y1, y2, y3, y4⟩
      have hgq : A1.getD q fr0 = ⟨y1, y2, y3, y4⟩ := by
        rw [HLast.out, ← hM]
        have : q = P.length := by rw [HLast.out] at hq; simpa using hq.symm
        rw [this]; simp [List.getD_eq_getElem?_getD]
      have c0 := hcell q 0 (.int .i64 y1) (by rw [hgq]; rfl) (by omega)
      have c1 := hcell q 1 (.int .i64 y2) (by rw [hgq]; rfl) (by omega)
      have c2 := hcell q 2 (.int .i64 y3) (by rw [hgq]; rfl) (by omega)
      have c3 := hcell q 3 (.int .i64 y4) (by rw [hgq]; rfl) (by omega)
      have q1 : ∀ a, wr.cell? ⟨g1, a, none⟩ = w5.cell? ⟨g1, a, none⟩ := fun a => HW.out.cell (p := ⟨g1, a, none⟩) hgl
      simp only [← q1, Nat.zero_add, Nat.add_zero] at c0 c1 c2 c3
      rw [hM] at hma
      have HB6 := Lib.hid (HB5.out.trans (HW.out.mono HB5.out.size))
      replace HO1 := Lib.hid (HO1.out.kept (grown_below (r := none) HW.out) (by simp [Value.ownBlock]))
      replace HO2 := Lib.hid (HO2.out.kept (grown_below (r := none) HW.out) (by cases v2.ownBlock <;> simp))
      replace HO3 := Lib.hid (HO3.out.kept (grown_below (r := none) HW.out) (by cases v3.ownBlock <;> simp))
      have w1' : IntKind.i64.wrap ((s.size : Int) + (x.size : Int)) = (s.size : Int) + x.size := IntWalk.i64_in _ (by simp at h1'; omega)
      have w2' : IntKind.i64.wrap ((j1 : Int) + (j2 : Int)) = (j1 : Int) + j2 := IntWalk.i64_in _ (by omega)
      have w3' : IntKind.i64.wrap ((q : Int) + 1 - 1) = (q : Int) := by rw [show (q : Int) + 1 - 1 = (q : Int) by omega]; exact IntWalk.i64_in _ (by omega)
      have w4' : IntKind.i64.wrap (((q + 1 : Nat) : Int) - 1) = (q : Int) := by rw [show (((q + 1 : Nat) : Int) - 1) = (q : Int) by omega]; exact IntWalk.i64_in _ (by omega)
      have w5' : IntKind.i64.wrap (q : Int) = (q : Int) := IntWalk.i64_in _ (by omega)
      have b1 : (0 : Int) ≤ (q : Int) := by omega
      have b2 : (q : Int) < ((q + 1 : Nat) : Int) := by omega
      have b3 : (q : Int) < (q : Int) + 1 := by omega
      have b4 : q < q + 1 := by omega
      have HQ := Lib.hid hq
      have HZ1 := Lib.hid hfl1
      have HZ2 := Lib.hid hfl2
      rw [hq] at HO1
      rw [hq]
      clear hlen hcell q1 hgl hM hgq HW hk hlt a1 hsumE hns hnl hfl1 hfl2 hj1 hj2 h1' h2' hln hml hokA HLast hP1 n1 n2 hq
      go_wp2_with fail
      obtain ⟨i0, hi, hz0, hz1, hz2⟩ := info_parts Tr.info68
      replace HO1 : Hid (wr.drew.ownsRow base1 68 4 (Value.slice (some { block := g1, off := 0 }) (q + 1) cap1) (q + 1) (flat A1)) := HO1.out
      replace HO2 : Hid (wr.drew.ownsRow base2 68 4 v2 A2.length (flat A2)) := HO2.out
      replace HO3 : Hid (wr.drew.ownsRow base3 68 4 v3 (A1 ++ A2).length (flat (A1 ++ A2))) := HO3.out
      replace HB6 : Hid (Below w.heap.size w wr.drew) := HB6.out.drew
      have d0 : wr.drew.cell? ⟨g1, q * 4, none⟩ = some (.int .i64 y1) := c0
      have d1 : wr.drew.cell? ⟨g1, q * 4 + 1, none⟩ = some (.int .i64 y2) := c1
      have d2 : wr.drew.cell? ⟨g1, q * 4 + 2, none⟩ = some (.int .i64 y3) := c2
      have d3 : wr.drew.cell? ⟨g1, q * 4 + 3, none⟩ = some (.int .i64 y4) := c3
      have hml : (A1 ++ A2).length ≤ maxLen := by have := HZ1.out; have := HZ2.out; rw [List.length_append]; unfold maxLen; omega
      clear c0 c1 c2 c3
      have HD : Hid (A1.length = q + 1) := HQ.out
      go_region_held3 (fun w' => w'.cell? ⟨g1, q * 4, none⟩ = some (.int .i64 y1) ∧ w'.cell? ⟨g1, q * 4 + 1, none⟩ = some (.int .i64 y2) ∧ w'.cell? ⟨g1, q * 4 + 2, none⟩ = some (.int .i64 y3) ∧ w'.cell? ⟨g1, q * 4 + 3, none⟩ = some (.int .i64 y4)) (first | exact ⟨d0, d1, d2, d3⟩ | go_keep) (first
        | (go_at_call 49; refine (hma _).mono ?_; rintro e w7 ⟨rfl, hb1⟩; have HB7 := Lib.hid (HB6.out.trans (hb1.mono HB6.out.size)); replace HO1 := Lib.hid (HO1.out.kept (grown_below (r := none) hb1) (by simp [Value.ownBlock])); replace HO2 := Lib.hid (HO2.out.kept (grown_below (r := none) hb1) (by cases v2.ownBlock <;> simp)); replace HO3 := Lib.hid (HO3.out.kept (grown_below (r := none) hb1) (by cases v3.ownBlock <;> simp)); replace d0 := cell_b hb1 d0; replace d1 := cell_b hb1 d1; replace d2 := cell_b hb1 d2; replace d3 := cell_b hb1 d3; clear hb1)
        | (refine step_append_rows (by go_simp) (.tmp 111) (.tmp 112) 74 rfl w7.heap.size base1 68 i0 fr0.v 4 32 Tryd.underlying74 hi hz0 hz1 hz2 rfl (by decide) (.slice (some ⟨w7.heap.size, 0, none⟩) 0 0) _ 0 (q + 1) [] (flat A1) rfl (World.ownsRow_made w7 #[] 0 (Nat.le_refl _) (by decide) (by simp)) rfl (HO1.out.alloc _) (flat_one _) (by unfold maxLen; have := HD.out; have := HZ1.out; omega) (by have := HD.out; have := HZ1.out; omega) (by simp) ?_; intro v' w8 ho hg; rw [Nat.zero_add, List.nil_append] at ho; have HO := Lib.hid ho; have HGL : Hid (g1 < w7.heap.size) := World.block_lt_of_cell? w7 ⟨g1, q * 4, none⟩ d0; have HV3 : Hid (∀ b, v3.ownBlock = some b → b < w7.heap.size) := fun b e => (HO3.out.lt b e).2; replace HO2 := Lib.hid ((HO2.out.alloc _).kept hg (apartN HO2.out)); replace HO3 := Lib.hid ((HO3.out.alloc _).kept hg (apartN HO3.out)); have HB8 := Lib.hid ((HB7.out.alloc HB7.out.size _).grown hg (HB7.out.alloc HB7.out.size _).size (fun k e => by cases e; exact HB7.out.size)); replace d0 := cell_app d0 hg; replace d1 := cell_app d1 hg; replace d2 := cell_app d2 hg; replace d3 := cell_app d3 hg; have HS7 : Hid (w7.heap.size ≤ w8.heap.size) := Nat.le_trans (Nat.le_succ _) (by have h := hg.size; rw [World.size_alloc] at h; exact h); have HL7 := Lib.hid HB7.out.size; clear ho hg)
        | (go_at_call 47; refine (sameFrames_sees (own_sees HO3.out) (own_sees HOb.out) hml).mono ?_; rintro e w10 ⟨rfl, hb1⟩; have HBx := Lib.hid (HB9.out.trans (hb1.mono HB9.out.size)); replace d0 := cell_b hb1 d0; replace d1 := cell_b hb1 d1; replace d2 := cell_b hb1 d2; replace d3 := cell_b hb1 d3; clear hb1)
        | (go_at_call 42; refine (haw _ HBx.out).mono ?_; rintro e w11 ⟨rfl, hb1⟩; have HBy := Lib.hid (HBx.out.trans (hb1.mono HBx.out.size)); replace d0 := cell_b hb1 d0; replace d1 := cell_b hb1 d1; replace d2 := cell_b hb1 d2; replace d3 := cell_b hb1 d3; clear hb1)
        | (refine step_append_rows (by go_simp) (.tmp 113) (.tmp 114) 74 rfl w7.heap.size base2 68 i0 fr0.v 4 32 Tryd.underlying74 hi hz0 hz1 hz2 rfl (by decide) v' _ (q + 1) A2.length (flat A1) (flat A2) rfl HO.out rfl HO2.out (flat_one _) (by unfold maxLen; have := HD.out; have := HZ1.out; have := HZ2.out; omega) (by have := HD.out; have := HZ1.out; have := HZ2.out; omega) HS7.out ?_; intro v'' w9 ho hg; have HOb : Hid (w9.ownsRow w7.heap.size 68 4 v'' (A1 ++ A2).length (flat (A1 ++ A2))) := (by rw [List.length_append, HD.out, flat_app]; exact ho); replace HO3 := Lib.hid (HO3.out.kept hg (by cases e : v3.ownBlock with | none => exact .inl rfl | some b => exact .inr (by intro e'; have h1 := HV3.out b e; have h2 := HO.out.lt b e'.symm; omega))); have HB9 := Lib.hid (HB8.out.grown hg HB8.out.size (fun k e => by have := (HO.out.lt k e).1; have := HL7.out; omega)); replace d0 := hg.cell d0 (fun e => by have := (HO.out.lt g1 e.symm).1; have := HGL.out; omega); replace d1 := hg.cell d1 (fun e => by have := (HO.out.lt g1 e.symm).1; have := HGL.out; omega); replace d2 := hg.cell d2 (fun e => by have := (HO.out.lt g1 e.symm).1; have := HGL.out; omega); replace d3 := hg.cell d3 (fun e => by have := (HO.out.lt g1 e.symm).1; have := HGL.out; omega); clear ho hg))
      all_goals go_wp2
      all_goals go_ret
      all_goals exact ⟨by first | rfl | trivial, HBy.out⟩
end Go.Proofs.YtaipifjmkbcjjaaDoor
