/-
  ValueReads, ValueReturns: whatever the value, true.
-/
import Derived.Test.YtmchldchhgofiaaPvL4
set_option linter.all false
set_option linter.unusedSimpArgs false
namespace Go.Av
open Go.Proofs

section
variable (g : GV) (h2 : g.chk = 0)
include h2
theorem ref01_OfInts_back (N : Nat) (hN : 100 ≤ N) (h1 : g.ty = 5) : Φ0 N i_ref01_OfInts [.one (.d (.sl (g.items.map fun x => intE x.num)))] = some g.toA := by
  have h := chk5 g h1 h2
  have e := ref01_OfInts_spec (g.items.map GV.num) (by simp; omega) N (by simp; omega)
  rw [List.map_map, ← h.2] at e
  exact e
theorem value_OfInts_back (N : Nat) (hN : 100 ≤ N) (h1 : g.ty = 5) : Φ0 N i_value_OfInts [.one (.d (.sl (g.items.map fun x => intE x.num)))] = some g.toA := by
  have h := chk5 g h1 h2
  have e := value_OfInts_spec (g.items.map GV.num) (by simp; omega) N (by simp; omega)
  rw [List.map_map, ← h.2] at e
  exact e
theorem ref01_OfTexts_back (N : Nat) (hN : 100 ≤ N) (h1 : g.ty = 6) : Φ0 N i_ref01_OfTexts [.one (.d (.sl (g.items.map fun x => strE x.text)))] = some g.toA := by
  have h := chk6 g h1 h2
  have e := ref01_OfTexts_spec (g.items.map GV.text) (by simp; omega) N (by simp; omega)
  rw [List.map_map, ← h.2] at e
  exact e
theorem value_OfTexts_back (N : Nat) (hN : 100 ≤ N) (h1 : g.ty = 6) : Φ0 N i_value_OfTexts [.one (.d (.sl (g.items.map fun x => strE x.text)))] = some g.toA := by
  have h := chk6 g h1 h2
  have e := value_OfTexts_spec (g.items.map GV.text) (by simp; omega) N (by simp; omega)
  rw [List.map_map, ← h.2] at e
  exact e
theorem row_len (h1 : g.ty = 7) : ∀ r ∈ g.items.map GV.row, r.length ≤ 16 := fun r hr => by
  obtain ⟨x, hx, rfl⟩ := List.mem_map.1 hr
  have h := chk7 g h1 h2
  have := (chk6 x (h.2.2 x hx).1 (h.2.2 x hx).2).1
  simpa [GV.row] using this
theorem ref01_OfTable_back (N : Nat) (hN : 100 ≤ N) (h1 : g.ty = 7) : Φ0 N i_ref01_OfTable [.one (.d (.sl (g.items.map fun x => rowE x.row)))] = some g.toA := by
  have h := chk7 g h1 h2
  have hr := row_len g h2 h1
  have e := ref01_OfTable_spec (g.items.map GV.row) (by simp; omega) N (by simp; omega) (fun r h => by have := hr r h; omega) (fun r h => by have := hr r h; omega)
  rw [List.map_map, ← h.2.1] at e
  exact e
theorem value_OfTable_back (N : Nat) (hN : 100 ≤ N) (h1 : g.ty = 7) : Φ0 N i_value_OfTable [.one (.d (.sl (g.items.map fun x => rowE x.row)))] = some g.toA := by
  have h := chk7 g h1 h2
  have hr := row_len g h2 h1
  have e := value_OfTable_spec (g.items.map GV.row) (by simp; omega) N (by simp; omega) (fun r h => by have := hr r h; omega) (fun r h => by have := hr r h; omega)
  rw [List.map_map, ← h.2.1] at e
  exact e
end

set_option maxRecDepth 100000 in
theorem valueReads_core : ∀ l, ArgsOK TT0 Try.f10.params.toList l → PCall Try.prog 10 l (.one (.d (.v (.bool true)))) := by
  intro l h
  obtain ⟨n, ds, h1, rfl⟩ := args1 (t := t_Value) h
  obtain ⟨g, rfl, hg⟩ := wt_GV n ds h1
  rw [argA_GV]
  refine Φ0_ok (g.wt + 201) 10 _ _ ?_
  generalize hN : g.wt + 200 = N
  show Φ0 (g.wt + 200 + 1) i_law01_ValueReads [g.toA] = _
  rw [hN, law01_ValueReads_run]
  obtain ⟨s, hs⟩ := ref01_Small_ex g hg N (by omega)
  have e0 := alive_spec N (by omega)
  have eq := eqSelf g hg N (by omega)
  unfold law01_ValueReads
  rw [cB hs]
  cases s
  · simp only [Bool.not_false, xite_true]
    rw [cB e0]
  · simp only [Bool.not_true, xite_false]
    by_cases h5 : g.ty = 5 ∧ g.chk = 0
    · rw [cLB (value_Ints_yes g hg h5.1 h5.2 N (by omega)), cLB (ref01_Ints_yes g hg h5.1 h5.2 N (by omega)), cLB (value_Texts_no g hg (by omega) N (by omega)), cLB (ref01_Texts_no g hg (by omega) N (by omega)),
        cLB (value_Rows_no g hg (by omega) N (by omega)), cLB (ref01_Rows_no g hg (by omega) N (by omega))]
      have hz : ¬ (0 : Int) < ([] : List (List D)).length := by simp
      simp only [beq_self_eq_true, Bool.not_true, xite_false, Bool.not_false, xite_true, xite_decide, hz, if_false]
      rw [cG (ref01_OfInts_back g h5.2 N (by omega) h5.1), cB eq]
      simp only [xite_true]
      rw [cB e0]
    · by_cases h6 : g.ty = 6 ∧ g.chk = 0
      · rw [cLB (value_Ints_no g hg (by omega) N (by omega)), cLB (ref01_Ints_no g hg (by omega) N (by omega)), cLB (value_Texts_yes g hg h6.1 h6.2 N (by omega)), cLB (ref01_Texts_yes g hg h6.1 h6.2 N (by omega)),
          cLB (value_Rows_no g hg (by omega) N (by omega)), cLB (ref01_Rows_no g hg (by omega) N (by omega))]
        have hz : ¬ (0 : Int) < ([] : List (List D)).length := by simp
        simp only [beq_self_eq_true, Bool.not_true, xite_false, Bool.not_false, xite_true, xite_decide, hz, if_false]
        rw [cG (ref01_OfTexts_back g h6.2 N (by omega) h6.1), cB eq]
        simp only [xite_true]
        rw [cB e0]
      · by_cases h7 : g.ty = 7 ∧ g.chk = 0
        · rw [cLB (value_Ints_no g hg (by omega) N (by omega)), cLB (ref01_Ints_no g hg (by omega) N (by omega)), cLB (value_Texts_no g hg (by omega) N (by omega)), cLB (ref01_Texts_no g hg (by omega) N (by omega)),
            cLB (value_Rows_yes g hg h7.1 h7.2 N (by omega)), cLB (ref01_Rows_yes g hg h7.1 h7.2 N (by omega))]
          have hz : ¬ (0 : Int) < ([] : List (List D)).length := by simp
          simp only [beq_self_eq_true, Bool.not_true, xite_false, Bool.not_false, xite_true, xite_decide, hz, if_false]
          rw [cG (ref01_OfTable_back g h7.2 N (by omega) h7.1), cB eq]
          simp only [xite_true]
          rw [cB e0]
        · rw [cLB (value_Ints_no g hg h5 N (by omega)), cLB (ref01_Ints_no g hg h5 N (by omega)), cLB (value_Texts_no g hg h6 N (by omega)), cLB (ref01_Texts_no g hg h6 N (by omega)),
            cLB (value_Rows_no g hg h7 N (by omega)), cLB (ref01_Rows_no g hg h7 N (by omega))]
          have hz : ¬ (0 : Int) < ([] : List (List D)).length := by simp
          simp only [beq_self_eq_true, Bool.not_true, xite_false, Bool.not_false, xite_true, xite_decide, hz, if_false]
          rw [cB e0]

set_option maxRecDepth 100000 in
theorem valueReturns_core : ∀ l, ArgsOK TT0 Try.f11.params.toList l → PCall Try.prog 11 l (.one (.d (.v (.bool true)))) := by
  intro l h
  obtain ⟨n, ds, h1, rfl⟩ := args1 (t := t_Value) h
  obtain ⟨g, rfl, hg⟩ := wt_GV n ds h1
  rw [argA_GV]
  refine Φ0_ok (g.wt + 201) 11 _ _ ?_
  generalize hN : g.wt + 200 = N
  show Φ0 (g.wt + 200 + 1) i_law01_ValueReturns [g.toA] = _
  rw [hN, law01_ValueReturns_run]
  obtain ⟨s, hs⟩ := ref01_Small_ex g hg N (by omega)
  have e0 := alive_spec N (by omega)
  have eq := value_Equal_spec g g hg hg N (by omega)
  rw [(ordd g).self] at eq
  unfold law01_ValueReturns
  rw [cB hs]
  cases s
  · simp only [Bool.not_false, xite_true]
    rw [cB e0]
  · simp only [Bool.not_true, xite_false]
    rw [cN (value_Check_spec g hg N (by omega))]
    by_cases hc : g.chk = 0
    · simp only [eq_true hc, decide_true, Bool.not_true, xite_false]
      by_cases h5 : g.ty = 5
      · simp only [eq_true h5, decide_true, xite_true]
        rw [cLB (value_Ints_yes g hg h5 hc N (by omega))]
        simp only [xite_true]
        rw [cG (value_OfInts_back g hc N (by omega) h5), cB eq]
        simp
      · simp only [eq_false h5, decide_false, xite_false]
        by_cases h6 : g.ty = 6
        · simp only [eq_true h6, decide_true, xite_true]
          rw [cLB (value_Texts_yes g hg h6 hc N (by omega))]
          simp only [xite_true]
          rw [cG (value_OfTexts_back g hc N (by omega) h6), cB eq]
          simp
        · simp only [eq_false h6, decide_false, xite_false]
          by_cases h7 : g.ty = 7
          · simp only [eq_true h7, decide_true, xite_true]
            rw [cLB (value_Rows_yes g hg h7 hc N (by omega))]
            simp only [xite_true]
            rw [cG (value_OfTable_back g hc N (by omega) h7), cB eq]
            simp
          · simp only [eq_false h7, decide_false, xite_false]
            rw [cB e0]
    · simp only [eq_false hc, decide_false, Bool.not_false, xite_true]
      rw [cB e0]
end Go.Av
