/-
  DomainSteps, DomainReturns.
-/
import Derived.Test.YtieagdjehjghdaaPdDom9
set_option linter.all false
set_option linter.unusedSimpArgs false
namespace Go.Av
open Go.Proofs

theorem args4 {T : TT} {t u v w : TypeId} {l : List A} (h : ArgsOK T [t, u, v, w] l) : ∃ n ds m es k fs q gs, WT T n t ds ∧ WT T m u es ∧ WT T k v fs ∧ WT T q w gs ∧ l = [argA T t ds, argA T u es, argA T v fs, argA T w gs] := by
  match l, h with
  | [a, b, c, d], h => obtain ⟨⟨n, ds, h1, h2⟩, ⟨m, es, h3, h4⟩, ⟨k, fs, h5, h6⟩, ⟨q, gs, h7, h8⟩, _⟩ := h; exact ⟨n, ds, m, es, k, fs, q, gs, h1, h3, h5, h7, by rw [h2, h4, h6, h8]⟩

theorem ref01_EqualAll_spec (a b : List GV) (hl : a.length ≤ 9223372036854775807) (n : Nat) (hn : GV.wtL a + 8 ≤ n) (ha : ∀ x ∈ a, x.Ok) (hb : ∀ x ∈ b, x.Ok) : Φ0 n i_ref01_EqualAll [aL a, aL b] = some (aB (decide (GV.cmpL a b = 0))) := by
  obtain ⟨m, rfl⟩ := nat_succ (n := n) (k := 0) (by omega)
  have hw := GV.wtL_len a
  have hb := ref01_CompareAll_body a b hl m (by omega) (fun x hx y hy => ref01_Compare_spec x (ha x hx) y (hb y hy) (m - 1) (by have := wtL_mem a x hx; omega))
  rw [ref01_EqualAll_run]
  simp only [ref01_EqualAll, hb, Option.bind_some, xAD_d, xDI_v]

theorem at_in (d : List (List GV)) (hz : (sizeF d).2 = 0) (n : Int) (h0 : 0 ≤ n) (h1 : n < (sizeF d).1) : atF d n = ((digF d n).1, 0) := by
  unfold atF
  rw [if_neg (by simp [hz]), if_neg (by omega), if_neg (by omega)]
theorem index_at (d : List (List GV)) (ho : AtOwn d) (hz : (sizeF d).2 = 0) (h4 : (sizeF d).1 ≤ 4096) (n : Int) (h0 : 0 ≤ n) (h1 : n < (sizeF d).1) : indexF d (digF d n).1 = (n, true) := by
  have he := sizeF_eq' d hz
  obtain ⟨k, rfl⟩ : ∃ k : Nat, n = k := ⟨n.toNat, by omega⟩
  unfold indexF
  rw [if_neg (by simp [hz]), if_neg (by simp [digF_len])]
  have := (idx_dig d ho (sizeF_pos d (by omega)) k 0 (by omega)).2
  rw [Nat.zero_mul, Nat.zero_add, Nat.mod_eq_of_lt (by omega)] at this
  exact this
theorem at_index (d : List (List GV)) (hz : (sizeF d).2 = 0) (h4 : (sizeF d).1 ≤ 4096) (t : List GV) (h : (indexF d t).2 = true) : atF d (indexF d t).1 = (t, 0) ∧ (indexF d t).1 ≤ 4096 := by
  have he := sizeF_eq' d hz
  have hi : indexF d t = if t.length ≠ d.length then (0, false) else idxF d t 0 := by unfold indexF; rw [if_neg (by simp [hz])]
  rw [hi] at h ⊢
  split at h
  · simp at h
  · rename_i hl
    rw [if_neg hl]
    have hl : t.length = d.length := by simpa using hl
    have hx : idxF d t 0 = ((idxF d t 0).1, true) := by rw [← h]
    obtain ⟨r, hr, hn, hd⟩ := dig_idx d t hl (idx_full d t hl _ _ hx) 0 _ (by omega) hx
    rw [Nat.zero_mul, Nat.zero_add] at hn
    rw [at_in d hz _ (by omega) (by omega), hd]
    exact ⟨rfl, by omega⟩

theorem domainReturns_core : ∀ l, ArgsOK TT0 Try.f10.params.toList l → PCall Try.prog 10 l (.one (.d (.v (.bool true)))) := by
  intro l h
  obtain ⟨n, ds, m, es, k, fs, q, gs, h1, h2, h3, h4, rfl⟩ := args4 (t := t_Domain) (u := 46) (v := t_int64) (w := 27) h
  obtain ⟨d, rfl, hd⟩ := wt_dom n ds h1
  obtain ⟨ts, rfl, _⟩ := wt_types m es h2
  obtain ⟨x, rfl, x0, x1⟩ := wt_int rfl rfl h3
  obtain ⟨t, rfl, t0, t1⟩ := wt_vals q gs h4
  refine Φ0_ok (4 * dwt d + GV.wtL t + 100) 10 _ _ ?_
  generalize hN : 4 * dwt d + GV.wtL t + 99 = N
  show Φ0 (4 * dwt d + GV.wtL t + 99 + 1) i_law19_DomainReturns [dA d, aT ts, aI x, aL t] = _
  rw [hN, law19_DomainReturns_run]
  obtain ⟨b, hb, hs⟩ := law19_small_spec d hd N (by omega)
  obtain ⟨b2, hb2, _⟩ := law19_few_spec t t0 t1 N (by omega)
  have e0 := alive_spec N (by omega)
  cases b
  · simp [law19_DomainReturns, hb, e0]
  · have hs := hs rfl
    by_cases h20 : (20 : Int) < ((ts.map inC).length : Int)
    · simp only [law19_DomainReturns, hb, e0, h20, Option.bind_some, xAD_d, xDB_v, xite_decide, xite_not, xite_true, if_true]
    · cases b2
      · simp only [law19_DomainReturns, hb, hb2, e0, h20, Option.bind_some, xAD_d, xDB_v, xite_decide, xite_not, xite_true, xite_false, if_true, if_false]
      · have e1 := domain_Check_spec d hd hs ts N (by omega)
        by_cases hc : checkF d ts = 0
        · obtain ⟨ho, hz, h4096⟩ := checkF_own d ts hc
          have e2 := domain_At_spec d hs x x1 N (by omega)
          have e4 := domain_Index_spec d hd hs t t1 N (by omega)
          have hidx := at_index d hz h4096 t
          have e6 := ref01_EqualAll_self t t0 N (by omega) t1
          obtain ⟨ix, ib, hxb⟩ : ∃ ix ib, indexF d t = (ix, ib) := ⟨_, _, rfl⟩
          rw [hxb] at e4 hidx
          by_cases hin : 0 ≤ x ∧ x < (sizeF d).1
          · rw [at_in d hz x hin.1 hin.2] at e2
            have e3 := domain_Index_spec d hd hs (digF d x).1 (digF_ok d _ hd.ok) N (by omega)
            rw [index_at d ho hz h4096 x hin.1 hin.2] at e3
            cases ib
            · simp only [law19_DomainReturns, hb, hb2, e0, e1, hc, e2, e3, e4, h20, xtup_tup, List.getElem?_cons_zero, List.getElem?_cons_succ, Option.bind_some, xAD_d, xDI_v, xDB_v, xDL_sl, xite_decide, xite_not, xite_true, xite_false, if_true, if_false]
            · obtain ⟨hat, hle⟩ := hidx rfl
              have e5 := domain_At_spec d hs ix (by omega) N (by omega)
              rw [hat] at e5
              simp only [law19_DomainReturns, hb, hb2, e0, e1, hc, e2, e3, e4, e5, e6, h20, xtup_tup, List.getElem?_cons_zero, List.getElem?_cons_succ, Option.bind_some, xAD_d, xDI_v, xDB_v, xDL_sl, xite_decide, xite_not, xite_true, xite_false, if_true, if_false]
          · have hat1 : atF d x = ([], 1) := by
              unfold atF
              rw [if_neg (by simp [hz])]
              by_cases hn : x < 0
              · rw [if_pos hn]
              · rw [if_neg hn, if_pos (by omega)]
            rw [hat1] at e2
            have hne : ¬ (1 : Int) = 0 := by omega
            cases ib
            · simp only [law19_DomainReturns, hb, hb2, e0, e1, hc, e2, e4, h20, hne, xtup_tup, List.getElem?_cons_zero, List.getElem?_cons_succ, Option.bind_some, xAD_d, xDI_v, xDB_v, xDL_sl, xite_decide, xite_not, xite_true, xite_false, if_true, if_false]
            · obtain ⟨hat, hle⟩ := hidx rfl
              have e5 := domain_At_spec d hs ix (by omega) N (by omega)
              rw [hat] at e5
              simp only [law19_DomainReturns, hb, hb2, e0, e1, hc, e2, e4, e5, e6, h20, hne, xtup_tup, List.getElem?_cons_zero, List.getElem?_cons_succ, Option.bind_some, xAD_d, xDI_v, xDB_v, xDL_sl, xite_decide, xite_not, xite_true, xite_false, if_true, if_false]
        · simp only [law19_DomainReturns, hb, hb2, e0, e1, hc, h20, Option.bind_some, xAD_d, xDI_v, xDB_v, xite_decide, xite_not, xite_true, xite_false, if_true, if_false]

theorem domainSteps_core : ∀ l, ArgsOK TT0 Try.f9.params.toList l → PCall Try.prog 9 l (.one (.d (.v (.bool true)))) := by
  intro l h
  obtain ⟨n, ds, m, es, h1, h2, rfl⟩ := args2 (t := t_Domain) (u := 46) h
  obtain ⟨d, rfl, hd⟩ := wt_dom n ds h1
  obtain ⟨ts, rfl, _⟩ := wt_types m es h2
  refine Φ0_ok (4 * dwt d + 6000) 9 _ _ ?_
  generalize hN : 4 * dwt d + 5999 = N
  show Φ0 (4 * dwt d + 5999 + 1) i_law19_DomainSteps [dA d, aT ts] = _
  rw [hN, law19_DomainSteps_run]
  obtain ⟨b, hb, hs⟩ := law19_small_spec d hd N (by omega)
  have e0 := alive_spec N (by omega)
  cases b
  · simp [law19_DomainSteps, hb, e0]
  · have hs := hs rfl
    have hdl := hs.len
    by_cases h20 : (20 : Int) < ((ts.map inC).length : Int)
    · simp only [law19_DomainSteps, hb, e0, h20, Option.bind_some, xAD_d, xDB_v, xite_decide, xite_not, xite_true, if_true]
    · have e1 := domain_Check_spec d hd hs ts N (by omega)
      by_cases hc : checkF d ts = 0
      · obtain ⟨ho, hz, h4096⟩ := checkF_own d ts hc
        have hnn := sizeF_nonneg d
        have e2 := domain_Size_spec d hs.len hs.ax N (by omega)
        have e3 := domain_All_spec d hs N (by omega)
        have hall : allF d = ((sizeF d).1.toNat, 0) := by
          unfold allF
          rw [if_neg (by simp [hz]), if_neg (by omega)]
        rw [allA, hall] at e3
        generalize hS : (sizeF d).1.toNat = S at e3
        have hlen : ((tupC d S).length : Int) = (sizeF d).1 := by simp [tupC]; omega
        have hbig : ¬ 4096 < (sizeF d).1 := by omega
        simp only [law19_DomainSteps, hb, e0, e1, hc, e2, e3, hz, hlen, hbig, h20, xtup_tup, List.getElem?_cons_zero, List.getElem?_cons_succ, Option.bind_some, xAD_d, xDI_v, xDB_v, xDL_sl, xite_decide, xite_not, xite_true, xite_false, if_true, if_false]
        refine iter_ex' (R := A) S (fun k y => y = ((), tupC d S, (k : Int), (dL d, ()), ())) _ (fun k y rec hk hy hrec => ?_) N 0 _ (by omega) (by omega) rfl
        subst hy
        by_cases hlt : k < S
        · have hlt' : (k : Int) < (sizeF d).1 := by omega
          by_cases h60 : (k : Int) < 60
          · have hw := wrap_i (k + 1) (by omega) (by omega)
            have f1 := domain_At_spec d hs k (by omega) N (by omega)
            rw [at_in d hz k (by omega) hlt'] at f1
            have f2 := ref01_EqualAll_self (digF d (k : Int)).1 (by rw [digF_len]; omega) N (by have := digF_wt d (k : Int); omega) (digF_ok d _ hd.ok)
            by_cases hk0 : (0 : Int) < (k : Int)
            · have hw2 : IntKind.i64.wrap ((k : Int) - 1) = ((k - 1 : Nat) : Int) := by rw [wrap_i _ (by omega) (by omega)]; omega
              have f3 := ref01_EqualAll_spec (digF d ((k - 1 : Nat) : Int)).1 (digF d (k : Int)).1 (by rw [digF_len]; omega) N (by have := digF_wt d ((k - 1 : Nat) : Int); omega) (digF_ok d _ hd.ok) (digF_ok d _ hd.ok)
              have hne : ¬ GV.cmpL (digF d ((k - 1 : Nat) : Int)).1 (digF d (k : Int)).1 = 0 := by
                intro hcmp
                have heq := (cmpL_facts (digF d ((k - 1 : Nat) : Int)).1 (fun x _ => ordd x)).2.2.1 _ hcmp
                have g1 := index_at d ho hz h4096 ((k - 1 : Nat) : Int) (by omega) (by omega)
                have g2 := index_at d ho hz h4096 (k : Int) (by omega) hlt'
                rw [heq, g2] at g1
                injection g1 with g3 _
                omega
              simp only [law19_DomainSteps_l0, hlen, hlt', h60, f1, f2, f3, hk0, hne, hw, hw2, tupElem d S k hlt, tupElem d S (k - 1) (by omega), xtup_tup, List.getElem?_cons_zero, List.getElem?_cons_succ, Option.bind_some, length_axC, axC0, Nat.le_refl, xAD_d, xDI_v, xDB_v, xDL_sl, xite_decide, xite_not, xite_true, xite_false, xif_decide, if_true, if_false]
              exact hrec _ hlt rfl
            · simp only [law19_DomainSteps_l0, hlen, hlt', h60, f1, f2, hk0, hw, tupElem d S k hlt, xtup_tup, List.getElem?_cons_zero, List.getElem?_cons_succ, Option.bind_some, length_axC, axC0, Nat.le_refl, xAD_d, xDI_v, xDB_v, xDL_sl, xite_decide, xite_not, xite_true, xite_false, xif_decide, if_true, if_false]
              exact hrec _ hlt rfl
          · simp only [law19_DomainSteps_l0, hlen, hlt', h60, e0, Option.bind_some, xAD_d, xDB_v, xite_decide, if_true, if_false]
        · have hlt' : ¬ (k : Int) < (sizeF d).1 := by omega
          simp only [law19_DomainSteps_l0, hlen, hlt', e0, Option.bind_some, xAD_d, xDB_v, xite_decide, if_false]
      · simp only [law19_DomainSteps, hb, e0, e1, hc, h20, Option.bind_some, xAD_d, xDI_v, xDB_v, xite_decide, xite_not, xite_true, xite_false, if_true, if_false]
end Go.Av
