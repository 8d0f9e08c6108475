/-
  DomainAts: whatever the domain and the number, true.
-/
import Derived.Test.YtieagdjehjghdaaPdOpen
import Derived.Test.YtieagdjehjghdaaPdDom3
import Derived.Test.YtieagdjehjghdaaPdAlive
set_option linter.all false
set_option linter.unusedSimpArgs false
namespace Go.Av
open Go.Proofs

theorem wt_vals (n : Nat) (ds : List D) (h : WT TT0 n 27 ds) : ∃ l : List GV, ds = axC l ∧ l.length ≤ 9223372036854775807 ∧ ∀ g ∈ l, g.Ok := by
  obtain ⟨es, rfl, h4, m', rfl, h5⟩ := wt_slice (i := ty27) rfl rfl h
  obtain ⟨l, rfl, h6⟩ := wt_list (f := GV.cells) (q := GV.Ok) (fun c hc => wt_GV m' c hc) es h5
  exact ⟨l, rfl, by simpa using h4, h6⟩
theorem wt_dom (n : Nat) (ds : List D) (h : WT TT0 n t_Domain ds) : ∃ d : List (List GV), ds = [.sl (dL d)] ∧ DOk d := by
  obtain ⟨dss, rfl, hl, m, rfl, hf⟩ := wt_struct (i := i_Domain) rfl rfl h
  match dss, hl with
  | [a], _ =>
    obtain ⟨es, rfl, h4, m', rfl, h5⟩ := wt_slice (i := ty22) rfl rfl (hf 0 _ a rfl rfl)
    obtain ⟨l, rfl, h6⟩ := wt_list (f := axC) (q := fun l => l.length ≤ 9223372036854775807 ∧ ∀ g ∈ l, g.Ok) (fun c hc => wt_vals m' c hc) es h5
    exact ⟨l, rfl, ⟨by simpa using h4, fun a ha => (h6 a ha).1, fun a ha => (h6 a ha).2⟩⟩

theorem z0_ok : z0.Ok := .mk 0 0 [] [] (by simp) (by simp) (by omega) (by omega) (by simp)
theorem getD_or (a : List GV) (i : Nat) : a.getD i z0 = z0 ∨ a.getD i z0 ∈ a := by
  by_cases h : i < a.length
  · right
    have : a.getD i z0 = a[i] := by simp [h]
    rw [this]; exact List.getElem_mem h
  · left; simp [List.getD, List.getElem?_eq_none (by omega : a.length ≤ i)]
theorem digF_ok : ∀ (d : List (List GV)) (n : Int), (∀ a ∈ d, ∀ g ∈ a, g.Ok) → ∀ x ∈ (digF d n).1, x.Ok
  | [], _, _, x, hx => by simp [digF] at hx
  | a :: d, n, h, x, hx => by
    simp only [digF] at hx
    rcases List.mem_cons.1 hx with rfl | hx
    · rcases getD_or a ((digF d n).2 % (a.length : Int)).toNat with e | e
      · rw [e]; exact z0_ok
      · exact h a (List.mem_cons_self ..) _ e
    · exact digF_ok d n (fun b hb => h b (List.mem_cons_of_mem _ hb)) x hx
theorem digF_wt : ∀ (d : List (List GV)) (n : Int), GV.wtL (digF d n).1 ≤ 4 * dwt d
  | [], _ => by simp [digF, GV.wtL]
  | a :: d, n => by
    have ih := digF_wt d n
    simp only [digF, GV.wtL, dwt]
    rcases getD_or a ((digF d n).2 % (a.length : Int)).toNat with e | e
    · rw [e]; have : z0.wt = 2 := by simp [z0, GV.wt, GV.wtL]
      omega
    · have := wtL_mem a _ e
      omega
theorem atF_ok (d : List (List GV)) (n : Int) (h : ∀ a ∈ d, ∀ g ∈ a, g.Ok) : ∀ x ∈ (atF d n).1, x.Ok := by
  unfold atF
  (repeat' split) <;> first | (intro x hx; simp at hx; done) | exact digF_ok d n h
theorem atF_wt (d : List (List GV)) (n : Int) : GV.wtL (atF d n).1 ≤ 4 * dwt d := by
  unfold atF
  (repeat' split) <;> first | (simp [GV.wtL]; done) | exact digF_wt d n
theorem atF_len (d : List (List GV)) (n : Int) : (atF d n).1.length ≤ d.length := by
  unfold atF
  (repeat' split) <;> first | (simp; done) | exact Nat.le_of_eq (digF_len d n)
theorem alive_spec (n : Nat) (hn : 60 ≤ n) : Φ0 n i_law19_alive [] = some (aB true) := by
  obtain ⟨m, rfl⟩ : ∃ m, n = m + 60 := ⟨n - 60, by omega⟩
  exact alive_eval m

theorem domainAts_core : ∀ l, ArgsOK TT0 Try.f3.params.toList l → PCall Try.prog 3 l (.one (.d (.v (.bool true)))) := by
  intro l h
  obtain ⟨n, ds, m, es, h1, h2, rfl⟩ := args2 (t := t_Domain) (u := t_int64) h
  obtain ⟨d, rfl, hd⟩ := wt_dom n ds h1
  obtain ⟨k, rfl, k0, k1⟩ := wt_int rfl rfl h2
  refine Φ0_ok (4 * dwt d + 100) 3 _ _ ?_
  generalize hN : 4 * dwt d + 99 = N
  show Φ0 (4 * dwt d + 99 + 1) i_law19_DomainAts [dA d, aI k] = _
  rw [hN, law19_DomainAts_run]
  obtain ⟨b, hb, hs⟩ := law19_small_spec d hd N (by omega)
  have e0 := alive_spec N (by omega)
  cases b
  · simp [law19_DomainAts, hb, e0]
  · have hs := hs rfl
    have e1 := domain_At_spec d hs k k1 N (by omega)
    have e2 := ref19_At_spec d hs k k1 N (by omega)
    have e3 := ref01_EqualAll_self (atF d k).1 (by have := atF_len d k; have := hs.len; omega) N (by have := atF_wt d k; omega) (atF_ok d k hd.ok)
    simp only [law19_DomainAts, hb, e0, e1, e2, e3, Option.bind_some, xAD_d, xDI_v, xDB_v, xDL_sl, xtup_tup, List.getElem?_cons_zero, List.getElem?_cons_succ, xite_decide, xite_not, xite_true, if_true, decide_true]
end Go.Av
