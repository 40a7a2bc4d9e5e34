/- Walks: a stream, scanned by the reference. -/
import Derived.Test.YtaipifjmkbcjjaaDoorZg5
import Derived.Test.YtaipifjmkbcjjaaDoorZSc
import Derived.Test.YtaipifjmkbcjjaaDoorZg3
import Derived.OwnWalk
namespace Go.Proofs.YtaipifjmkbcjjaaDoor
open Go.RowKit Go.Sort

theorem getD_drop0 (L : List UInt8) (k : Nat) : (L.drop k).getD 0 0 = L.getD k 0 := by
  simp [List.getD_eq_getElem?_getD]
theorem oneS_out (L : List UInt8) (k : Nat) (h : k < L.length) (h60 : L.getD k 0 ≠ 60) : oneS (L.drop k) = (fr0, 1) := by
  unfold oneS
  rw [if_pos (by rw [getD_drop0]; exact h60)]
theorem oneS_in (L : List UInt8) (k : Nat) (h : k < L.length) (h60 : L.getD k 0 = 60) (to : Nat) (hto : endF (L.drop (k + 1)) (k + 1) = to) :
    (to = 0 ∧ oneS (L.drop k) = (fr0, 1)) ∨ (k + 2 ≤ to ∧ to ≤ L.length ∧ oneS (L.drop k) = if (decS ((L.take to).drop k)).er ≠ 0 then (fr0, 1) else
      (⟨(decS ((L.take to).drop k)).t, (decS ((L.take to).drop k)).k, (decS ((L.take to).drop k)).a, (decS ((L.take to).drop k)).b⟩, to - k)) := by
  rw [oneS_R _ (by rw [List.length_drop]; omega), oneR_end _ (by rw [getD_drop0]; exact h60), List.drop_drop]
  have hs := endF_shift (L.drop (k + 1)) 1 k
  have hl := endF_le (L.drop (k + 1)) (k + 1)
  rw [show 1 + k = k + 1 by omega, hto] at hs
  rw [hto, List.length_drop] at hl
  by_cases h0 : endF (L.drop (k + 1)) 1 = 0
  · rw [if_pos h0] at hs
    left
    exact ⟨hs, by rw [if_pos h0]⟩
  · rw [if_neg h0] at hs
    right
    have hp : 2 ≤ endF (L.drop (k + 1)) 1 := by
      cases hd : L.drop (k + 1) with
      | nil => rw [hd] at h0; exact absurd rfl h0
      | cons b l =>
        rw [hd] at h0
        unfold endF at h0 ⊢
        have hg : ∀ (l : List UInt8) (n : Nat), endF l n = 0 ∨ n < endF l n := by
          intro l
          induction l with
          | nil => intro n; left; rfl
          | cons b l ih =>
            intro n
            unfold endF
            split
            · left; rfl
            · split
              · right; omega
              · have := ih (n + 1); omega
        have := hg l (1 + 1)
        split
        · rename_i e; rw [if_pos e] at h0; exact absurd rfl h0
        · rename_i e
          rw [if_neg e] at h0
          split
          · omega
          · rename_i e2; rw [if_neg e2] at h0; omega
    refine ⟨by omega, by omega, ?_⟩
    rw [if_neg h0, show endF (L.drop (k + 1)) 1 = to - k by omega, List.drop_take]

theorem cells_new2 (w : World) (o1 o2 : Obj) (xs : Array Value) (t : TypeId) : ∀ j u, xs.toList[j]? = some u → (((w.alloc o1).alloc o2).alloc (.cells xs t)).cell? ((⟨w.heap.size + 1 + 1, 0, none⟩ : Addr).add j) = some u := by
  intro j u hj
  have := cells_new ((w.alloc o1).alloc o2) xs t j u hj
  simpa using this

theorem odecode_fields (s : ByteArray) (w : World) (d : DecR) (hd : decS s.data.toList = d) :
    Calls Tryd.prog 44 #[.string s] w fun e w' => e = .returned (.tuple #[.agg #[.int .i64 d.t, .int .i64 d.k, .int .i64 d.a, .int .i64 d.b], .agg #[.int .i64 d.er, .int .i64 d.at']]) ∧ Below w.heap.size w w' := by
  subst hd; exact odecode_any s w

set_option maxRecDepth 100000 in
set_option maxHeartbeats 2000000 in
theorem oscan_any (L : List UInt8) (hm : L.length ≤ 1000000) (w : World) :
    Calls Tryd.prog 46 #[.string (bs L)] w fun e W' => ∃ v, e = .returned (.tuple #[v, .int .i64 (junkOf (items L))]) ∧
      W'.ownsRow w.heap.size 68 4 v (framesOf (items L)).length (flat (framesOf (items L))) ∧ Below w.heap.size w W' := by
  obtain ⟨i0, hi, hz0, hz1, hz2⟩ := info_parts Tr.info68
  obtain ⟨N, hN⟩ : ∃ N, (bs L).size = N := ⟨_, rfl⟩
  have hNL : L.length = N := by rw [← hN, bs_size]
  have hNb : N ≤ maxLen := by unfold maxLen; omega
  have hend := fun (p : Nat) (W : World) (hp : p < (bs L).size) => end_any (bs L) p W hp (by rw [hN]; exact hNb)
  rw [bs_list, hN] at hend
  have hbyte : ∀ k (h : k < (bs L).size), L.getD k 0 = (bs L)[k]'h := fun k h => by
    have := byte_at (bs L) k h
    rw [bs_list] at this; exact this
  have hext : ∀ k to, ((bs L).extract k to).data.toList = (L.take to).drop k := fun k to => by
    rw [extract_list, bs_list, List.drop_take]
  generalize bs L = s at *
  have HB0 := Below.refl w.heap.size w
  go_enter Tryd.func46, Tryd.ntmps46
  go_wp2
  go_loopw [4, 5, 6] (fun v g p wr => ∃ (k : Nat) (pre : List (Fr × Nat)), k ≤ N ∧ p = .int .i64 k ∧ g = .int .i64 (junkOf pre) ∧ Hid (pre.length ≤ k) ∧ Hid (items L = pre ++ items (L.drop k)) ∧
      Hid (wr.ownsRow w.heap.size 68 4 v (framesOf pre).length (flat (framesOf pre))) ∧ Hid (Below w.heap.size w wr))
    (fun _ _ p _ => N - (intOf p).toNat)
  case atStart => exact ⟨0, [], Nat.zero_le _, rfl, rfl, Nat.le_refl _, by show items L = _; simp, World.ownsRow_nil _ _ _ _, HB0⟩
  case round =>
    obtain ⟨k, pre, hk, rfl, rfl, Hpk, HI, HR, HB⟩ := hrel
    clear HB0
    have hj := junkOf_len pre
    have hfl := framesOf_len pre
    have hpk := Hpk.out
    by_cases hlt : k < N
    · have hks : k < s.size := by omega
      have hk2 : (k : Int) < s.size := by omega
      have hk1 : (0 : Int) ≤ k := by omega
      have hwk : IntKind.i64.wrap ((k : Int) + 1) = (k : Int) + 1 := IntWalk.i64_in _ (by omega)
      have hwj : IntKind.i64.wrap ((junkOf pre : Int) + 1) = (junkOf pre : Int) + 1 := IntWalk.i64_in _ (by omega)
      have hb := hbyte k hks
      have hic := items_cons (L.drop k) (by rw [List.length_drop]; omega)
      -- what a step over one byte keeps
      have HM : oneS (L.drop k) = (fr0, 1) → items L = (pre ++ [(fr0, 1)]) ++ items (L.drop (k + 1)) := fun e => by
        rw [HI.out, hic, e]; simp
      by_cases h60 : s[k]'hks = 60
      · have hq : (((s[k]'hks).toNat : Int) == 60) = true := by rw [h60]; rfl
        rw [h60] at hb
        obtain ⟨to, hto⟩ : ∃ to, endF (L.drop (k + 1)) (k + 1) = to := ⟨_, rfl⟩
        have hcall := fun W => hend k W (by omega)
        simp only [hto] at hcall
        have hcase := oneS_in L k (by omega) hb to hto
        clear hend hb hbyte
        have stepF : ∀ x : Fr × Nat, x.2 = 1 → junkOf (pre ++ [x]) = junkOf pre + 1 ∧ framesOf (pre ++ [x]) = framesOf pre := fun x hx => ⟨junkOf_miss pre _ (by rw [hx]; simp), framesOf_miss pre _ (by rw [hx]; simp)⟩
        obtain ⟨hjm, hfm⟩ := stepF (fr0, 1) rfl
        rcases hcase with ⟨h0, hone⟩ | ⟨hto1, hto2, hone⟩
        · have HI2 := Lib.hid (HM hone)
          subst h0
          clear HM hic hone stepF hto hext h60
          go_wp2_with (go_at_call 77; refine (hcall _).mono ?_; rintro e w1 ⟨rfl, rfl⟩)
          refine ⟨⟨k + 1, pre ++ [(fr0, 1)], by omega, by go_num, by rw [hjm]; go_num, by show _ ≤ _; simp; omega, HI2, by show World.ownsRow _ _ _ _ _ _ _; rw [hfm]; exact HR.out, HB⟩, ?_⟩
          simp [intOf]; omega
        · have ht1 : (0 : Int) < to := by omega
          have ht2 : (k : Int) ≤ to := by omega
          have ht3 : (to : Int) ≤ s.size := by omega
          obtain ⟨d, hd⟩ : ∃ d, decS (s.extract k to).data.toList = d := ⟨_, rfl⟩
          have hdec := odecode_fields (s.extract k to) wr d hd
          rw [hext] at hd
          rw [hd] at hone
          have hb0 := HB.out.size
          by_cases her : d.er = 0
          · have her' : (d.er == 0) = true := by simpa using her
            rw [if_neg (by simpa using her)] at hone
            have HI2 : Hid (items L = (pre ++ [((⟨d.t, d.k, d.a, d.b⟩, to - k) : Fr × Nat)]) ++ items (L.drop to)) := by
              show items L = _
              rw [HI.out, hic, hone]
              simp only [List.append_assoc, List.singleton_append, List.drop_drop]
              rw [show k + (to - k) = to by omega]
            have h1n : (1 : Int) < ((to - k : Nat) : Int) := by omega
            have hjm2 : junkOf (pre ++ [((⟨d.t, d.k, d.a, d.b⟩, to - k) : Fr × Nat)]) = junkOf pre := junkOf_hit pre _ h1n
            have hfm2 : framesOf (pre ++ [((⟨d.t, d.k, d.a, d.b⟩, to - k) : Fr × Nat)]) = framesOf pre ++ [⟨d.t, d.k, d.a, d.b⟩] := framesOf_hit pre _ h1n
            clear hext h60 hto hic hone hd her stepF HM hjm hfm h1n
            go_wp2_with (first
              | (go_at_call 77; refine (hcall _).mono ?_; rintro e w1 ⟨rfl, rfl⟩)
              | (go_at_call 44; refine hdec.mono ?_; rintro e w1 ⟨rfl, hb1⟩; have HB1 := Lib.hid (HB.out.trans (hb1.mono hb0)); have HR1 := Lib.hid (HR.out.kept (grown_below (r := none) hb1) (by cases u4.ownBlock <;> simp)); clear hb1)
              | (at_builtin; refine wpList_append_own _ rfl _ _ 74 rfl w.heap.size 68 i0 fr0.v 4 32 Tryd.underlying74 hi hz0 hz1 hz2 rfl (by decide) _ _ _ rfl (((HR1.out.alloc _).alloc _).alloc _) ⟨w1.heap.size + 1 + 1, 0, none⟩ 1 1 (Fr.c ⟨d.t, d.k, d.a, d.b⟩).toList rfl rfl (cells_new2 _ _ _ _ _) (by simp [Value.oneCell']) (by unfold maxLen; omega) (by omega) (by simp only [World.size_alloc]; have := HB1.out.size; omega) ?_; intro v' w2 hown' hgrow _; have HO := Lib.hid hown'; have HG := Lib.hid hgrow; clear hown' hgrow)
              | fail)
            have hB4 := ((HB1.out.alloc HB1.out.size (.cells (Fr.c ⟨d.t, d.k, d.a, d.b⟩) 68)).alloc (HB1.out.alloc HB1.out.size _).size (.cells #[.int .i64 d.er, .int .i64 d.at'] 70)).alloc ((HB1.out.alloc HB1.out.size _).alloc (HB1.out.alloc HB1.out.size _).size _).size (.cells (Fr.c ⟨d.t, d.k, d.a, d.b⟩) 68)
            refine ⟨⟨to, _, by omega, rfl, by rw [hjm2], by show _ ≤ _; simp; omega, HI2, ?_, ?_⟩, ?_⟩
            · show World.ownsRow _ _ _ _ _ _ _
              rw [hfm2, flat_snoc, List.length_append]
              exact HO.out
            · exact hB4.grown HG.out hB4.size (fun k e => (HR1.out.lt k e).1)
            · simp [intOf]; omega
          · have her' : (d.er == 0) = false := by simpa using her
            rw [if_pos (by simpa using her)] at hone
            have HI2 := Lib.hid (HM hone)
            clear hext h60 hto hic hone hd her stepF HM
            go_wp2_with (first
              | (go_at_call 77; refine (hcall _).mono ?_; rintro e w1 ⟨rfl, rfl⟩)
              | (go_at_call 44; refine hdec.mono ?_; rintro e w1 ⟨rfl, hb1⟩; have HB1 := Lib.hid (HB.out.trans (hb1.mono hb0)); have HR1 := Lib.hid (HR.out.kept (grown_below (r := none) hb1) (by cases u4.ownBlock <;> simp)); clear hb1)
              | fail)
            refine ⟨⟨k + 1, pre ++ [(fr0, 1)], by omega, by go_num, by rw [hjm]; go_num, by show _ ≤ _; simp; omega, HI2, ?_, ?_⟩, ?_⟩
            · show World.ownsRow _ _ _ _ _ _ _
              rw [hfm]; exact (HR1.out.alloc _).alloc _
            · exact (HB1.out.alloc HB1.out.size _).alloc (HB1.out.alloc HB1.out.size _).size _
            · simp [intOf]; omega
      · have hq : (((s[k]'hks).toNat : Int) == 60) = false := by
          simp
          intro e
          exact h60 (UInt8.toNat_inj.1 (by simpa using (by omega : (s[k]'hks).toNat = 60)))
        have hone := oneS_out L k (by omega) (by rw [hb]; exact h60)
        have HI2 := Lib.hid (HM hone)
        have hjm : junkOf (pre ++ [((fr0, 1) : Fr × Nat)]) = junkOf pre + 1 := junkOf_miss pre _ (by simp)
        have hfm : framesOf (pre ++ [((fr0, 1) : Fr × Nat)]) = framesOf pre := framesOf_miss pre _ (by simp)
        clear HM hic hb h60 hone hend hbyte hext
        go_wp2
        refine ⟨⟨k + 1, pre ++ [(fr0, 1)], by omega, by go_num, by rw [hjm]; go_num, by show _ ≤ _; simp; omega, HI2, by show World.ownsRow _ _ _ _ _ _ _; rw [hfm]; exact HR.out, HB⟩, ?_⟩
        simp [intOf]; omega
    · have hk2 : ¬ (k : Int) < s.size := by omega
      obtain rfl : k = N := by omega
      clear hend hbyte hext
      go_wp2
      go_ret2
      have HI' := HI.out
      rw [List.drop_of_length_le (by omega), items_nil, List.append_nil] at HI'
      rw [HI']
      exact ⟨_, rfl, HR.out, HB.out⟩
end Go.Proofs.YtaipifjmkbcjjaaDoor
