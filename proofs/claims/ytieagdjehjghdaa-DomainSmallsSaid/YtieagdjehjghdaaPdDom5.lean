/-
  Domains: all tuples; DomainSizes.
-/
import Derived.Test.YtieagdjehjghdaaPdDom4
set_option linter.all false
set_option linter.unusedSimpArgs false
namespace Go.Av
open Go.Proofs

theorem prodF_nonneg : ∀ (d : List (List GV)) (n : Int), 0 ≤ n → 0 ≤ (prodF d n).1
  | [], n, h => h
  | a :: d, n, h => by
    rw [prodF]
    split
    · exact Int.le_refl _
    · exact prodF_nonneg d _ (Int.mul_nonneg h (by omega))
theorem sizeF_nonneg (d : List (List GV)) : 0 ≤ (sizeF d).1 := by
  unfold sizeF
  split
  · exact Int.le_refl _
  · exact prodF_nonneg d 1 (by omega)

abbrev tupC (d : List (List GV)) (k : Nat) : List (List D) := (List.range k).map fun (i : Nat) => axC (digF d (i : Int)).1
def allF (d : List (List GV)) : Nat × Int :=
  if (sizeF d).2 ≠ 0 then (0, 11) else if 4096 < (sizeF d).1 then (0, 11) else ((sizeF d).1.toNat, 0)
abbrev allA (d : List (List GV)) : A := .tup [.one (.d (.sl (tupC d (allF d).1))), aI (allF d).2]
theorem allF_le (d : List (List GV)) : (allF d).1 ≤ 4096 := by
  unfold allF
  (repeat' split) <;> simp
  omega
theorem tupC_succ (d : List (List GV)) (k : Nat) : tupC d (k + 1) = tupC d k ++ [axC (digF d (k : Int)).1] := by simp [tupC, List.range_succ]
theorem tupC_app (d : List (List GV)) (k : Nat) (hk : k ≤ 4096) : xApp 1 24 (tupC d k).length (tupC d k) [[D.sl ((digF d (k : Int)).1.map GV.cells)]] = some (tupC d (k + 1)) := by
  unfold xApp
  rw [if_pos ⟨rfl, by simp, fun c hc => by obtain ⟨g', _, rfl⟩ := List.mem_map.1 hc; rfl, by simp; omega⟩, tupC_succ]
  rfl

theorem domain_All_spec (d : List (List GV)) (hs : DSm d) (n : Nat) (hn : dwt d + 5000 ≤ n) : Φ0 n i_domain_All [dA d] = some (allA d) := by
  obtain ⟨m, rfl⟩ := nat_succ (n := n) (k := 0) (by omega)
  have hd := hs.len
  have hdl := dwt_len d
  have hsz := domain_Size_spec d hd hs.ax m (by omega)
  have hnn := sizeF_nonneg d
  rw [domain_All_run]
  unfold allA allF
  by_cases h1 : (sizeF d).2 = 0
  · by_cases h2 : 4096 < (sizeF d).1
    · simp [domain_All, hsz, h1, h2, tupC]
    · simp only [domain_All, hsz, h1, h2, xtup_tup, List.getElem?_cons_zero, List.getElem?_cons_succ, xAD_d, xDI_v, xite_decide, xite_not, if_true, Option.bind_some, ne_eq, not_true, if_false, decide_true, xif_true]
      refine iter_ex' (R := A) (sizeF d).1.toNat (fun k x => x = ((), (sizeF d).1, tupC d k, (k : Int), (dL d, ()), ())) _ (fun k x rec hk hx hrec => ?_) m 0 _ (by omega) (by omega) rfl
      subst hx
      by_cases hlt : k < (sizeF d).1.toNat
      · have hlt' : (k : Int) < (sizeF d).1 := by omega
        have hw := wrap_i (k + 1) (by omega) (by omega)
        have ht := domain_tuple_spec d hs (sizeF_pos d (by omega)) k (by omega) (by omega) m (by omega)
        have happ := tupC_app d k (by omega)
        simp only [domain_All_l0, hlt', hw, ht, happ, xite_decide, xif_decide, Option.bind_some, xDL_sl, xAD_d, if_true]
        exact hrec _ hlt rfl
      · have hlt' : ¬ (k : Int) < (sizeF d).1 := by omega
        have hke : k = (sizeF d).1.toNat := by omega
        simp only [domain_All_l0, hlt', xite_decide, if_false]
        rw [hke]
  · simp [domain_All, hsz, h1, tupC]

theorem ref19_All_spec (d : List (List GV)) (hs : DSm d) (n : Nat) (hn : dwt d + 5000 ≤ n) : Φ0 n i_ref19_All [dA d] = some (allA d) := by
  obtain ⟨m, rfl⟩ := nat_succ (n := n) (k := 0) (by omega)
  have hd := hs.len
  have hdl := dwt_len d
  have hsz := ref19_Size_spec d hd hs.ax m (by omega)
  have hnn := sizeF_nonneg d
  rw [ref19_All_run]
  unfold allA allF
  by_cases h1 : (sizeF d).2 = 0
  · by_cases h2 : 4096 < (sizeF d).1
    · simp [ref19_All, hsz, h1, h2, tupC]
    · simp only [ref19_All, hsz, h1, h2, xtup_tup, List.getElem?_cons_zero, List.getElem?_cons_succ, xAD_d, xDI_v, xite_decide, xite_not, if_true, Option.bind_some, ne_eq, not_true, if_false, decide_true, xif_true]
      refine iter_ex' (R := A) (sizeF d).1.toNat (fun k x => x = ((), (sizeF d).1, tupC d k, (k : Int), (dL d, ()), ())) _ (fun k x rec hk hx hrec => ?_) m 0 _ (by omega) (by omega) rfl
      subst hx
      by_cases hlt : k < (sizeF d).1.toNat
      · have hlt' : (k : Int) < (sizeF d).1 := by omega
        have hw := wrap_i (k + 1) (by omega) (by omega)
        have ht := ref19_At_spec d hs k (by omega) m (by omega)
        have hat : atF d (k : Int) = ((digF d (k : Int)).1, 0) := by
          unfold atF
          rw [if_neg (by simp [h1]), if_neg (by omega), if_neg (by omega)]
        rw [hat] at ht
        have happ := tupC_app d k (by omega)
        simp only [ref19_All_l0, hlt', hw, ht, happ, xtup_tup, List.getElem?_cons_zero, List.getElem?_cons_succ, xite_decide, xif_decide, Option.bind_some, xDL_sl, xDI_v, xAD_d, if_true]
        exact hrec _ hlt rfl
      · have hlt' : ¬ (k : Int) < (sizeF d).1 := by omega
        have hke : k = (sizeF d).1.toNat := by omega
        simp only [ref19_All_l0, hlt', xite_decide, if_false]
        rw [hke]
  · simp [ref19_All, hsz, h1, tupC]

theorem tupElem (d : List (List GV)) (s k : Nat) (h : k < s) : xElem 1 (tupC d s) (k : Int) = some (axC (digF d (k : Int)).1) := by
  have := xElem_map 1 (fun i : Nat => axC (digF d (i : Int)).1) (List.range s) k (by simpa using h) (fun _ => rfl)
  simpa [tupC] using this

theorem domainSizes_core : ∀ l, ArgsOK TT0 Try.f5.params.toList l → PCall Try.prog 5 l (.one (.d (.v (.bool true)))) := by
  intro l h
  obtain ⟨n, ds, h1, rfl⟩ := args1 (t := t_Domain) h
  obtain ⟨d, rfl, hd⟩ := wt_dom n ds h1
  refine Φ0_ok (4 * dwt d + 6000) 5 _ _ ?_
  generalize hN : 4 * dwt d + 5999 = N
  show Φ0 (4 * dwt d + 5999 + 1) i_law19_DomainSizes [dA d] = _
  rw [hN, law19_DomainSizes_run]
  obtain ⟨b, hb, hs⟩ := law19_small_spec d hd N (by omega)
  have e0 := alive_spec N (by omega)
  cases b
  · simp [law19_DomainSizes, hb, e0]
  · have hs := hs rfl
    have hdl := hs.len
    have hdw := dwt_len d
    have e1 := domain_Size_spec d hs.len hs.ax N (by omega)
    have e2 := ref19_Size_spec d hs.len hs.ax N (by omega)
    have e3 := domain_All_spec d hs N (by omega)
    have e4 := ref19_All_spec d hs N (by omega)
    have hle := allF_le d
    simp only [law19_DomainSizes, hb, e0, e1, e2, e3, e4, Option.bind_some, xAD_d, xDI_v, xDB_v, xDL_sl, xtup_tup, List.getElem?_cons_zero, List.getElem?_cons_succ, xite_decide, xite_not, xite_true, if_true, decide_true]
    refine iter_ex' (R := A) (allF d).1 (fun k x => x = (tupC d (allF d).1, tupC d (allF d).1, (k : Int), ())) _ (fun k x rec hk hx hrec => ?_) N 0 _ (by omega) (by omega) rfl
    subst hx
    have hlen : ((tupC d (allF d).1).length : Int) = (allF d).1 := by simp [tupC]
    by_cases hlt : k < (allF d).1
    · have hlt' : (k : Int) < (allF d).1 := by omega
      have hw := wrap_i (k + 1) (by omega) (by omega)
      have he := ref01_EqualAll_self (digF d (k : Int)).1 (by rw [digF_len]; omega) N (by have := digF_wt d (k : Int); omega) (digF_ok d _ hd.ok)
      simp only [law19_DomainSizes_l0, hlen, hlt', hw, tupElem d _ k hlt, he, xite_decide, xite_not, xite_true, xif_decide, Option.bind_some, length_axC, axC0, xDL_sl, xAD_d, xDB_v, Nat.le_refl, if_true]
      exact hrec _ hlt rfl
    · have hlt' : ¬ (k : Int) < (allF d).1 := by omega
      simp only [law19_DomainSizes_l0, hlen, hlt', e0, xite_decide, if_false, Option.bind_some, xAD_d, xDB_v]
end Go.Av
