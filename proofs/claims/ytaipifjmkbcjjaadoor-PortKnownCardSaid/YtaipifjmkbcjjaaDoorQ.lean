/- Laws of whole blocks: a struct of many cells read and written at once. -/
import Derived.Test.YtaipifjmkbcjjaaDoorK
namespace Go.Proofs.YtaipifjmkbcjjaaDoor
open Go.RowKit

section
variable {P : Program}

/-- A struct read out of its block. -/
theorem wp_load_bl {o : Oper} {a : Act} {w : World} {K : Act → World → Prop} {Q : Exit → Act → World → Prop} (ty : TypeId) (x : Operand) (ho : o.op = .load ty x)
    (g : Nat) (hx : a.eval x = .pointer (some ⟨g, 0, none⟩)) (t : TypeId) (cs : Array Value) (d : TypeDesc) (hg : Bl g cs t w)
    (hu : P.underlying ty = some d) (hd : (match d with | .struct _ | .array _ _ => true | _ => false) = true) (hi : (P.info? ty).map (·.size) = some cs.size)
    (h : K (a.put o.dst (.agg cs)) w) : o.wp P a w K Q := wp_load_row ty x ho g hx t cs (0, 0) d hg hu hd hi h

theorem wpList_load_bl {ops : Array Oper} {rest : List Oper} {o : Oper} {a : Act} {w : World} {Q : Exit → Act → World → Prop} (hgd : Region.wanted o (yielded ops a.tmps) = true) (ty : TypeId) (x : Operand) (ho : o.op = .load ty x)
    (g : Nat) (hx : a.eval x = .pointer (some ⟨g, 0, none⟩)) (t : TypeId) (cs : Array Value) (d : TypeDesc) (hg : Bl g cs t w)
    (hu : P.underlying ty = some d) (hd : (match d with | .struct _ | .array _ _ => true | _ => false) = true) (hi : (P.info? ty).map (·.size) = some cs.size)
    (h : wpList P ops Q rest (a.put o.dst (.agg cs)) w) : wpList P ops Q (o :: rest) a w := by
  unfold wpList
  rw [if_pos hgd]
  exact .inl (wp_load_bl ty x ho g hx t cs d hg hu hd hi h)

theorem setRow_bl {w : World} {g : Nat} {cs vs : Array Value} {t : TypeId} (hg : Bl g cs t w) : Bl g vs t (w.setRow g vs) := setRow_heap w g cs vs t (0, 0) hg
theorem setRow_grown {w : World} {g : Nat} {vs : Array Value} : w.grownBy (w.setRow g vs) (some g) :=
  ⟨rfl, rfl, rfl, by simp, fun k _ hk => setRow_other w g k vs (by intro e; exact hk (by rw [e]))⟩

/-- A struct stored into its block. -/
theorem wp_store_bl {o : Oper} {a : Act} {w : World} {K : Act → World → Prop} {Q : Exit → Act → World → Prop} (ty : TypeId) (x y : Operand) (ho : o.op = .store ty x y)
    (g : Nat) (hx : a.eval x = .pointer (some ⟨g, 0, none⟩)) (t : TypeId) (cs vs : Array Value) (hy : a.eval y = .agg vs) (hg : Bl g cs t w) (hn : vs.size = cs.size)
    (hi : (P.info? ty).map (·.size) = some cs.size) (h1 : ∀ v ∈ vs.toList, v.oneCell' = true)
    (h : ∀ w', Bl g vs t w' → w.grownBy w' (some g) → K (a.put o.dst undef) w') : o.wp P a w K Q := by
  have hs := run_storeCells_at P g 0 t vs.toList 0 cs w hg (by simp; omega) h1
  have hrow : (List.take (0 + 0) cs.toList ++ vs.toList ++ List.drop (0 + 0 + vs.toList.length) cs.toList).toArray = vs := by
    have : List.drop (0 + 0 + vs.toList.length) cs.toList = [] := List.drop_of_length_le (by simp; omega)
    rw [this]; simp
  rw [hrow] at hs
  unfold Oper.wp execOp
  cases hq : P.info? ty with
  | none => simp [hq] at hi
  | some i =>
    have hsz : i.size = cs.size := by simpa [hq] using hi
    simp only [ho, hx, hy, Instr.storeAt, Instr.sureAddr, storeVar, Value.cells, sizeOf, typeInfo, hn, Sem.run_bind, Sem.run_pure, Result.andThen_ok]
    simp [hq, hsz, hs, Oper.upon]
    exact h _ (setRow_bl hg) setRow_grown

theorem wpList_store_bl {ops : Array Oper} {rest : List Oper} {o : Oper} {a : Act} {w : World} {Q : Exit → Act → World → Prop} (hgd : Region.wanted o (yielded ops a.tmps) = true) (ty : TypeId) (x y : Operand) (ho : o.op = .store ty x y)
    (g : Nat) (hx : a.eval x = .pointer (some ⟨g, 0, none⟩)) (t : TypeId) (cs vs : Array Value) (hy : a.eval y = .agg vs) (hg : Bl g cs t w) (hn : vs.size = cs.size)
    (hi : (P.info? ty).map (·.size) = some cs.size) (h1 : ∀ v ∈ vs.toList, v.oneCell' = true)
    (h : ∀ w', Bl g vs t w' → w.grownBy w' (some g) → wpList P ops Q rest (a.put o.dst undef) w') : wpList P ops Q (o :: rest) a w := by
  unfold wpList
  rw [if_pos hgd]
  exact .inl (wp_store_bl ty x y ho g hx t cs vs hy hg hn hi h1 h)

/-- A struct result that lies in its block. -/
theorem results_bl {fn : Func} {p : Tmp} {ty : TypeId} (h : fn.results = #[.cell p ty]) (tmps : Array Value) (w : World) (g : Nat) (t : TypeId) (cs : Array Value) (d : TypeDesc)
    (hp : tmps.getD p undef = .pointer (some ⟨g, 0, none⟩)) (hg : Bl g cs t w)
    (hu : P.underlying ty = some d) (hd : (match d with | .struct _ | .array _ _ => true | _ => false) = true) (hi : (P.info? ty).map (·.size) = some cs.size) :
    (results fn tmps).run P w = .ok (.agg cs) w := results_cell_row h tmps w g t cs (0, 0) d hp hg hu hd hi
end

end Go.Proofs.YtaipifjmkbcjjaaDoor
