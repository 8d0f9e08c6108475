/-
  ValueLeast, ValueNames: whatever the arguments, true.
-/
import Derived.Test.YtmchldchhgofiaaPvOpen
import Derived.Test.YtmchldchhgofiaaPvVal7
set_option linter.all false
set_option linter.unusedSimpArgs false
namespace Go.Av
open Go.Proofs

theorem ty_of_chk (g : GV) (h : g.chk = 0) : 1 ≤ g.ty ∧ g.ty ≤ 8 := by
  rw [GV.chk_eq] at h
  split at h
  · omega
  · omega
theorem used_of_chk (g : GV) (h : g.chk = 0) : unusedF g.ty g.num g.text g.items.length = true := by
  have ht := ty_of_chk g h
  rw [GV.chk_eq] at h
  rw [if_neg (by omega)] at h
  split at h
  · omega
  · rename_i hu; simpa using hu

theorem least_le (g : GV) (h : g.chk = 0) : (dflt g.ty).cmp g ≤ 0 ∧ (dflt g.ty).chk = 0 ∧ (dflt g.ty).ty = g.ty ∧ dfltE g.ty = 0 := by
  have ht := ty_of_chk g h
  have hu := used_of_chk g h
  have he : dfltE g.ty = 0 := by unfold dfltE; rw [if_neg (by omega), if_neg (by omega)]
  have hty : (dflt g.ty).ty = g.ty := by
    unfold dflt
    rw [if_neg (by omega), if_neg (by omega)]
    (repeat' split) <;> simp <;> omega
  have hc := h
  rw [GV.chk_eq, if_neg (by omega), if_neg (by simp [hu])] at hc
  refine ⟨?_, ?_, hty, he⟩
  · rw [GV.cmp_le]
    refine .inr ⟨hty, ?_⟩
    have : g.ty = 1 ∨ g.ty = 2 ∨ g.ty = 3 ∨ g.ty = 4 ∨ g.ty = 5 ∨ g.ty = 6 ∨ g.ty = 7 ∨ g.ty = 8 := by omega
    rw [dflt_items]
    have hnil : GV.cmpL [] g.items ≤ 0 := by cases g.items <;> simp [GV.cmpL]
    rcases this with e | e | e | e | e | e | e | e
    · simp [e, unusedF] at hu
      simp [e, rangedF] at hc
      simp [dflt, e, hu.1]
      by_cases hz : g.num = 0
      · exact .inr ⟨hz.symm, .inr hnil⟩
      · left; omega
    · simp [e, unusedF] at hu
      simp [e, rangedF] at hc
      simp [dflt, e, hu.1]
      by_cases hz : g.num = -1000000
      · exact .inr ⟨hz.symm, .inr hnil⟩
      · left; omega
    · simp [e, unusedF] at hu
      simp [dflt, e, hu.1]
      cases hx : g.text with
      | nil => exact .inr ⟨rfl, hnil⟩
      | cons b t => left; simp [Op.bytesLess]
    · simp [e, unusedF] at hu
      simp [e, rangedF] at hc
      simp [dflt, e, hu.1]
      by_cases hz : g.num = 0
      · exact .inr ⟨hz.symm, .inr hnil⟩
      · left; omega
    · simp [e, unusedF] at hu
      simp [dflt, e, hu.1, hu.2]
      exact .inr hnil
    · simp [e, unusedF] at hu
      simp [dflt, e, hu.1, hu.2]
      exact .inr hnil
    · simp [e, unusedF] at hu
      simp [dflt, e, hu.1, hu.2]
      exact .inr hnil
    · simp [e, unusedF] at hu
      simp [e] at hc
      simp [dflt, e, hu.1]
      unfold sizedF at hc
      split at hc
      · simp at hc
      · rename_i hlen
        split at hc
        · rename_i hall
          cases hx : g.text with
          | nil => rw [hx] at hlen; simp at hlen
          | cons b t =>
            rw [hx] at hall
            simp only [List.all_cons, Bool.and_eq_true, okByte, decide_eq_true_eq] at hall
            by_cases hb : b = 32
            · subst hb
              cases t with
              | nil => exact .inr ⟨rfl, hnil⟩
              | cons c t => left; simp [Op.bytesLess]
            · left
              have : (32 : UInt8) < b := by
                rw [UInt8.lt_iff_toNat_lt]
                have h32 : (32 : UInt8).toNat = 32 := rfl
                have : b.toNat ≠ 32 := fun h => hb (UInt8.toNat_inj.1 (by rw [h]; rfl))
                omega
              simp [Op.bytesLess, this]
        · simp at hc
  · have : g.ty = 1 ∨ g.ty = 2 ∨ g.ty = 3 ∨ g.ty = 4 ∨ g.ty = 5 ∨ g.ty = 6 ∨ g.ty = 7 ∨ g.ty = 8 := by omega
    rcases this with e | e | e | e | e | e | e | e <;> simp [dflt, e, GV.chk, unusedF, rangedF, sizedF, GV.chkL, GV.chkR, okByte]

theorem valueLeast_core : ∀ l, ArgsOK TT0 Try.f7.params.toList l → PCall Try.prog 7 l (.one (.d (.v (.bool true)))) := by
  intro l h
  obtain ⟨n, ds, h1, rfl⟩ := args1 (t := t_Value) h
  obtain ⟨g, rfl, hg⟩ := wt_GV n ds h1
  rw [argA_GV]
  refine Φ0_ok (g.wt + 30) 7 _ _ ?_
  generalize hN : g.wt + 29 = N
  show Φ0 (g.wt + 29 + 1) i_law01_ValueLeast [g.toA] = _
  rw [hN, law01_ValueLeast_run]
  obtain ⟨s, hs⟩ := ref01_Small_ex g hg N (by omega)
  have e0 := alive_spec N (by omega)
  have e1 := value_Check_spec g hg N (by omega)
  have e2 := value_Default_spec g.ty N (by omega)
  have hdw := dflt_wt g.ty
  have hdo := dflt_ok g.ty
  have e3 := value_Check_spec (dflt g.ty) hdo N (by omega)
  have e4 := value_Compare_spec (dflt g.ty) hdo g hg N (by omega)
  have e5 := value_Equal_spec (dflt g.ty) g hdo hg N (by omega)
  have e6 := value_Compare_spec g hg (dflt g.ty) hdo N (by omega)
  have hsw := (ordd (dflt g.ty)).swap g
  rw [GV.toA, dflt_items, List.map_nil] at e3 e4 e5
  rw [GV.toA, GV.toA, dflt_items, List.map_nil] at e6
  unfold law01_ValueLeast
  rw [cB hs]
  cases s
  · simp only [xite_true, Bool.not_false]
    rw [cB e0]
  · simp only [Bool.not_true, xite_false]
    rw [cN e1]
    by_cases hc : g.chk = 0
    · obtain ⟨l1, l2, l3, l4⟩ := least_le g hc
      simp only [hc, decide_true, Bool.not_true, xite_false]
      rw [cGI e2]
      simp only [l4, decide_true, xite_true]
      rw [cN e3]
      simp only [l2, l3, decide_true, xite_true]
      rw [l3] at e4 e5 e6
      rw [cN e4]
      simp only [l1, decide_true, xite_true]
      rw [cB e5, cN e6, hsw]
      have : (decide ((dflt g.ty).cmp g = 0) == decide (-(dflt g.ty).cmp g ≤ 0)) = true := by
        by_cases hz : (dflt g.ty).cmp g = 0
        · simp [hz]
        · simp [hz]; omega
      simp only [this, xite_true]
      rw [cB e0]
    · simp only [hc, decide_false, Bool.not_false, xite_true]
      rw [cB e0]

theorem valueNames_core : ∀ l, ArgsOK TT0 Try.f8.params.toList l → PCall Try.prog 8 l (.one (.d (.v (.bool true)))) := by
  intro l h
  obtain ⟨n, ds, m, es, h1, h2, rfl⟩ := args2 (t := t_int) (u := t_string) h
  obtain ⟨t, rfl, ht1, ht2⟩ := wt_int rfl rfl h1
  obtain ⟨s, rfl, hs⟩ := wt_str rfl rfl h2
  refine Φ0_ok 31 8 _ _ ?_
  show Φ0 (30 + 1) i_law01_ValueNames [aI t, aS s] = _
  generalize hN : 30 = N
  rw [law01_ValueNames_run]
  have e0 := alive_spec N (by omega)
  have e1 := value_ParseType_spec s N (by omega)
  have e2 := ref01_ParseType_spec s N (by omega)
  have e3 := value_Default_spec t N (by omega)
  have e4 := ref01_Default_spec t N (by omega)
  have e5 := value_TypeName_spec t N (by omega)
  have e6 := ref01_TypeName_spec t N (by omega)
  have hdw := dflt_wt t
  have e7 := ref01_Equal_spec (dflt t) (dflt t) (dflt_ok t) (dflt_ok t) N (by omega)
  rw [GV.toA, dflt_items, List.map_nil, (ordd (dflt t)).self] at e7
  unfold law01_ValueNames
  simp only [xite_decide]
  split
  · rw [cB e0]
  · rw [cIB e1, cIB e2, cGI e3, cGI e4, cS e5, cS e6]
    simp only [if_true, beq_self_eq_true, xite_true]
    rw [cB e7]
    simp only [decide_true, xite_true]
    rw [cB e0]
end Go.Av
