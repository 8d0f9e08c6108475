/-
  DomainSmalls: whatever the types and the number, true.
-/
import Derived.Test.YtieagdjehjghdaaPdFst6
set_option linter.all false
set_option linter.unusedSimpArgs false
set_option maxRecDepth 100000
namespace Go.Av
open Go.Proofs

theorem few_chv (t : Nat) (b : Bool) : (chv t b).Few := by
  unfold chv
  split
  · exact .mk _ (by simp) (by simp) (by simp)
  · split
    · exact .mk _ (by simp only [GV.mk_text]; split <;> simp) (by simp) (by simp)
    · exact .mk _ (by simp) (by simp) (fun x hx => by
        simp only [GV.mk_items, List.mem_singleton] at hx
        subst hx
        exact .mk _ (by simp only [GV.mk_text]; split <;> simp) (by simp) (by simp))
theorem chs_few (t : Nat) (s : List UInt8) : ∀ x ∈ chs t s, x.Few := by
  intro x hx
  simp only [chs, List.mem_map] at hx
  obtain ⟨c, _, rfl⟩ := hx
  exact few_chv _ _
theorem val_few (t k : Nat) : (valAt t k).Few := by
  have w1 := (wd_ok k).1
  have w2 := (wd_ok (k + 1)).1
  unfold valAt
  split
  · exact .mk _ (by simp) (by simp) (by simp)
  · exact .mk _ (by simp) (by simp) (by simp)
  · exact .mk _ (by simp only [GV.mk_text]; omega) (by simp) (by simp)
  · exact .mk _ (by simp) (by simp) (by simp)
  · exact .mk _ (by simp) (by rw [GV.mk_items, chs_len]; omega) (chs_few _ _)
  · exact .mk _ (by simp) (by rw [GV.mk_items, chs_len]; omega) (chs_few _ _)
  · exact .mk _ (by simp) (by rw [GV.mk_items, chs_len]; omega) (chs_few _ _)
  · exact .mk _ (by simp only [GV.mk_text]; omega) (by simp) (by simp)

theorem domChk_small (d0 : List (List GV)) (h1 : (sizeF d0).2 = 0) (h2 : ¬ 4096 < (sizeF d0).1) (N : Nat) (hN : N ≤ 64) : ∀ ts : List Int, ts.all goodT = true → domChk d0 (axesF ts N) ts = 0
  | [], _ => by
    rw [domChk]
    · rw [if_neg (by simp [h1]), if_neg h2]
    · simp
  | t :: ts, hg => by
    rw [List.all_cons, Bool.and_eq_true] at hg
    have hgt := hg.1
    simp only [goodT, Bool.and_eq_true, decide_eq_true_eq] at hgt
    have hax := first_axChk t.toNat N (by omega) (by omega) hN
    have htt : ((t.toNat : Nat) : Int) = t := by omega
    rw [htt] at hax
    show domChk d0 (firstF t.toNat N :: axesF ts N) (t :: ts) = 0
    rw [domChk, if_neg (by simp [hax])]
    exact domChk_small d0 h1 h2 N hN ts hg.2

theorem smallF_facts (ts : List Int) (n : Int) : (smallF ts n).1.length ≤ 4 ∧ (∀ a ∈ (smallF ts n).1, a.length ≤ 64 ∧ GV.wtL a ≤ 6500 ∧ (∀ x ∈ a, x.Ok) ∧ ∀ x ∈ a, x.Few) ∧ ((smallF ts n).2 = 0 → checkF (smallF ts n).1 ts = 0) := by
  unfold smallF
  by_cases h4 : (4 : Int) < ts.length
  · rw [if_pos h4]; exact ⟨by simp, by simp, fun h => by simp at h⟩
  · rw [if_neg h4]
    by_cases hg : ts.all goodT = false
    · rw [if_pos hg]; exact ⟨by simp, by simp, fun h => by simp at h⟩
    · rw [if_neg hg]
      by_cases c1 : n < 0
      · rw [if_pos c1]; exact ⟨by simp, by simp, fun h => by simp at h⟩
      · rw [if_neg c1]
        by_cases c2 : 64 < n
        · rw [if_pos c2]; exact ⟨by simp, by simp, fun h => by simp at h⟩
        · rw [if_neg c2]
          by_cases c3 : 4096 < (sizeF (axesF ts n.toNat)).1
          · rw [if_pos c3]; exact ⟨by simp, by simp, fun h => by simp at h⟩
          · rw [if_neg c3]
            have hg' : ts.all goodT = true := by simpa using hg
            obtain ⟨f1, f2⟩ := axesF_facts ts n.toNat hg' (by omega) (by omega)
            refine ⟨f1, fun a ha => ⟨(f2 a ha).1, (f2 a ha).2.1, (f2 a ha).2.2, fun x hx => ?_⟩, fun _ => ?_⟩
            · simp only [axesF, List.mem_map] at ha
              obtain ⟨t, _, rfl⟩ := ha
              obtain ⟨k, hk, rfl⟩ := List.mem_iff_getElem.1 hx
              rw [(firstF_get _ _ k hk).1]; exact val_few _ _
            · unfold checkF
              rw [if_neg (by simp [axesF])]
              exact domChk_small _ (axes_err _ f1 fun a ha => (f2 a ha).1) c3 _ (by omega) ts hg'

theorem dwt_le (d : List (List GV)) (M : Nat) (h : ∀ a ∈ d, GV.wtL a ≤ M) : dwt d ≤ d.length * (M + 1) := by
  induction d with
  | nil => simp [dwt]
  | cons a d ih =>
    have h1 := h a (List.mem_cons_self ..)
    have h2 := ih fun x hx => h x (List.mem_cons_of_mem _ hx)
    rw [List.length_cons, Nat.add_mul]
    simp only [dwt]
    omega

theorem domainSmalls_core : ∀ l, ArgsOK TT0 Try.f8.params.toList l → PCall Try.prog 8 l (.one (.d (.v (.bool true)))) := by
  intro l h
  obtain ⟨n, ds, m, es, h1, h2, rfl⟩ := args2 (t := 46) (u := t_int) h
  obtain ⟨ts, rfl, _⟩ := wt_types n ds h1
  obtain ⟨k, rfl, k0, k1⟩ := wt_int rfl rfl h2
  refine Φ0_ok 30000 8 _ _ ?_
  generalize hN : 29999 = N
  show Φ0 (29999 + 1) i_law19_DomainSmalls [aT ts, aI k] = _
  rw [hN, law19_DomainSmalls_run]
  have e0 := alive_spec N (by omega)
  by_cases h20 : (20 : Int) < ((ts.map inC).length : Int)
  · simp only [law19_DomainSmalls, e0, h20, Option.bind_some, xAD_d, xDB_v, xite_decide, if_true]
  · obtain ⟨f1, f2, f3⟩ := smallF_facts ts k
    have e1 := domain_Small_spec ts k N (by omega)
    have e2 := ref19_Small_spec ts k N (by omega)
    generalize smallF ts k = q at *
    have e3 := ref19_Same_self q.1 N (by omega) (by omega) (fun a ha => by obtain ⟨g1, g2, g3, _⟩ := f2 a ha; exact ⟨by omega, by omega, g3⟩)
    by_cases hz : q.2 = 0
    · have hd : DOk q.1 := ⟨by omega, fun a ha => by have := (f2 a ha).1; omega, fun a ha => (f2 a ha).2.2.1⟩
      have hs : DSm q.1 := ⟨by omega, fun a ha => by have := (f2 a ha).1; omega, fun a ha => (f2 a ha).2.2.2⟩
      have hw := dwt_le q.1 6500 fun a ha => (f2 a ha).2.1
      have hw2 : q.1.length * (6500 + 1) ≤ 4 * 6501 := Nat.mul_le_mul_right _ f1
      have e4 := domain_Check_spec q.1 hd hs ts N (by omega)
      rw [f3 hz] at e4
      simp only [law19_DomainSmalls, e0, e1, e2, e3, e4, h20, eq_true hz, xtup_tup, xADs_agg, unD_cons, unD_nil, List.getD_cons_zero, List.length_cons, List.length_nil, List.getElem?_cons_zero, List.getElem?_cons_succ, Option.bind_some, xAD_d, xDI_v, xDB_v, xDL_sl, xite_decide, xite_not, xite_true, xif_decide, if_true, if_false]
    · simp only [law19_DomainSmalls, e0, e1, e2, e3, h20, hz, xtup_tup, xADs_agg, unD_cons, unD_nil, List.getD_cons_zero, List.length_cons, List.length_nil, List.getElem?_cons_zero, List.getElem?_cons_succ, Option.bind_some, xAD_d, xDI_v, xDB_v, xDL_sl, xite_decide, xite_not, xite_true, xif_decide, if_true, if_false]
end Go.Av
