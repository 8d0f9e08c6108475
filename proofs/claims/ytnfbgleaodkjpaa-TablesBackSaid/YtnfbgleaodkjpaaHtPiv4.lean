/-
  Rows turned into columns: the plain law; the specification's.
-/
import Derived.Test.YtnfbgleaodkjpaaHtUnp
set_option linter.all false
set_option linter.unusedSimpArgs false
namespace Go.Av

/-- The place of a text in a list; behind it if it is not there. -/
def ix (s : Txt) : Row → Nat
  | [] => 0
  | x :: l => if x = s then 0 else ix s l + 1
theorem ix_le (s : Txt) : ∀ l : Row, ix s l ≤ l.length
  | [] => Nat.le_refl _
  | x :: l => by
    rw [ix]
    split
    · simp
    · have := ix_le s l; simp; exact this
theorem ix_lt (s : Txt) : ∀ l : Row, ix s l < l.length ↔ s ∈ l
  | [] => by simp [ix]
  | x :: l => by
    rw [ix]
    by_cases h : x = s
    · simp [h]
    · have := ix_lt s l
      rw [if_neg h, List.length_cons, List.mem_cons]
      have h' : ¬ s = x := fun e => h e.symm
      simp only [h', false_or, ← this]
      omega
theorem ix_get (s : Txt) : ∀ l : Row, (h : ix s l < l.length) → l[ix s l] = s
  | [], h => by simp [ix] at h
  | x :: l, h => by
    by_cases hx : x = s
    · simp only [ix, hx, if_true, List.getElem_cons_zero]
    · have e : ix s (x :: l) = ix s l + 1 := by rw [ix, if_neg hx]
      simp only [e, List.getElem_cons_succ]
      exact ix_get s l (by rw [e] at h; simpa using h)
theorem ix_app (s : Txt) : ∀ (l q : Row), s ∈ l → ix s (l ++ q) = ix s l
  | [], _, h => by cases h
  | x :: l, q, h => by
    rw [List.cons_append, ix, ix]
    by_cases hx : x = s
    · rw [if_pos hx, if_pos hx]
    · rw [if_neg hx, if_neg hx, ix_app s l q (by rcases List.mem_cons.1 h with h | h; exact absurd h.symm hx; exact h)]
theorem ix_none (s : Txt) (l : Row) (h : s ∉ l) : ix s l = l.length := by
  have h1 := ix_le s l
  have h2 := ix_lt s l
  have : ¬ ix s l < l.length := fun e => h (h2.1 e)
  omega
theorem ix_inj {a b : Txt} {l : Row} (ha : a ∈ l) (h : ix a l = ix b l) : a = b := by
  have h1 := (ix_lt a l).2 ha
  have e1 := ix_get a l h1
  have e2 := ix_get b l (by rw [← h]; exact h1)
  simp only [← h] at e2
  exact e1.symm.trans e2
def addF (l : Row) (s : Txt) : Row := if s ∈ l then l else l ++ [s]
theorem addF_mem (l : Row) (s : Txt) : s ∈ addF l s := by
  unfold addF; split
  · assumption
  · simp
theorem addF_sub (l : Row) (s a : Txt) (h : a ∈ l) : a ∈ addF l s := by
  unfold addF; split
  · exact h
  · simp [h]
theorem ix_addF (l : Row) (s a : Txt) (h : a ∈ l) : ix a (addF l s) = ix a l := by
  unfold addF; split
  · rfl
  · exact ix_app a l [s] h
theorem ix_addF_self (l : Row) (s : Txt) : ix s (addF l s) = ix s l := by
  unfold addF; split
  · rfl
  · rename_i h
    rw [ix_none s l h]
    have : ∀ l : Row, s ∉ l → ix s (l ++ [s]) = l.length := fun l => by
      induction l with
      | nil => intro _; simp [ix]
      | cons x l ih =>
        intro h
        rw [List.cons_append, ix, if_neg (fun e => h (by rw [e]; exact List.mem_cons_self ..)), ih (fun e => h (List.mem_cons_of_mem _ e))]
        rfl
    exact this l h
def dst (l : Row) : Row := l.foldl addF []
theorem dst_snoc (l : Row) (s : Txt) : dst (l ++ [s]) = addF (dst l) s := by simp [dst]
theorem dst_mem (l : Row) (a : Txt) (h : a ∈ l) : a ∈ dst l := by
  have : ∀ (l s : Row), (∀ a ∈ s, a ∈ l.foldl addF s) ∧ ∀ a ∈ l, a ∈ l.foldl addF s := fun l => by
    induction l with
    | nil => intro s; exact ⟨fun a h => h, by simp⟩
    | cons x l ih =>
      intro s
      obtain ⟨h1, h2⟩ := ih (addF s x)
      refine ⟨fun a h => h1 a (addF_sub s x a h), fun a h => ?_⟩
      rcases List.mem_cons.1 h with rfl | h
      · exact h1 _ (addF_mem s a)
      · exact h2 a h
  exact (this l []).2 a h
theorem dst_of_mem (l : Row) (a : Txt) (h : a ∈ dst l) : a ∈ l := by
  have : ∀ (l s : Row), ∀ a ∈ l.foldl addF s, a ∈ s ∨ a ∈ l := fun l => by
    induction l with
    | nil => intro s a h; exact .inl h
    | cons x l ih =>
      intro s a h
      rcases ih (addF s x) a h with h | h
      · unfold addF at h
        split at h
        · exact .inl h
        · rcases List.mem_append.1 h with h | h
          · exact .inl h
          · simp at h; exact .inr (by rw [h]; exact List.mem_cons_self ..)
      · exact .inr (List.mem_cons_of_mem _ h)
  rcases this l [] a h with h | h
  · cases h
  · exact h
theorem dst_len (l : Row) : (dst l).length ≤ l.length := by
  have : ∀ (l s : Row), (l.foldl addF s).length ≤ s.length + l.length := fun l => by
    induction l with
    | nil => intro s; simp
    | cons x l ih =>
      intro s
      have := ih (addF s x)
      have h2 : (addF s x).length ≤ s.length + 1 := by unfold addF; split <;> simp
      simp only [List.foldl_cons, List.length_cons]; omega
  have := this l []
  simpa [dst] using this
theorem dst_nodup (l : Row) : (dst l).Nodup := by
  have : ∀ (l s : Row), s.Nodup → (l.foldl addF s).Nodup := fun l => by
    induction l with
    | nil => intro s h; exact h
    | cons x l ih =>
      intro s h
      refine ih _ ?_
      unfold addF
      split
      · exact h
      · rename_i hx
        rw [List.nodup_append]
        refine ⟨h, by simp, fun a ha b hb => ?_⟩
        simp at hb
        subst hb
        intro e; subst e; exact hx ha
  exact this l [] (by simp)
theorem ix_nodup {l : Row} (h : l.Nodup) (i : Nat) (hi : i < l.length) : ix l[i] l = i := by
  have h1 := (ix_lt l[i] l).2 (List.getElem_mem hi)
  have h2 := ix_get l[i] l h1
  exact (List.getElem_inj h).1 h2

/-! The result. -/
def c0 (r : Row) : Txt := r.getD 0 []
def c1 (r : Row) : Txt := r.getD 1 []
def c2 (r : Row) : Txt := r.getD 2 []
def same2 (q r : Row) : Bool := decide (c0 q = c0 r) && decide (c1 q = c1 r)
/-- Two rows of the same key and name, the second one among the later ones. -/
def dup2 : Tab → Tab → Bool
  | _, [] => false
  | p, r :: t => p.any (fun q => same2 q r) || dup2 (p ++ [r]) t
def valF : Tab → Txt → Txt → Txt
  | [], _, _ => []
  | r :: t, k, s => if c0 r = k ∧ c1 r = s then c2 r else valF t k s
def keysF (t : Tab) : Row := dst (t.map c0)
def namesF (t : Tab) : Row := dst (t.map c1)
def pivT (t : Tab) : Tab := ([] :: namesF t) :: (keysF t).map fun k => k :: (namesF t).map (valF t k)
def pivF (t : Tab) : Tab × Int :=
  if chk t ≠ 0 then ([], chk t) else if t.length = 0 then ([], 7) else if cols t ≠ 3 then ([], 4) else if dup2 [] t = true then ([], 6)
  else if 8 ≤ (keysF t).length ∨ 8 ≤ (namesF t).length then ([], 2) else (pivT t, 0)

/-! The specification's. -/
theorem ref08_place_spec (l : Row) (s : Txt) (hl : l.length ≤ 1000) (n : Nat) (hn : 1002 ≤ n) : (O0 n).Φ i_ref08_place [aR l, aS s] = some (aI (if s ∈ l then (ix s l : Int) else -1)) := by
  obtain ⟨m, rfl⟩ := nat_succ (n := n) (k := 0) (by omega)
  rw [ref08_place_run, ref08_place]
  have := iter_nat (F := fun (x : List (List D) × List UInt8 × Int × Unit) (rec : (List (List D) × List UInt8 × Int × Unit) → Option A) => ref08_place_l0 (O0 m).Φ m (fun l3 s4 i5 => rec (l3, s4, i5, ())) x.1 x.2.1 x.2.2.1) l.length (fun k => (rD l, s, (k : Int), ())) (fun k => aI (if s ∈ l.drop k then ((k + ix s (l.drop k) : Nat) : Int) else -1)) (fun k rec hk hrec => by
    by_cases hlt : k < l.length
    · have hw := wrap_i (k + 1) (by omega) (by omega)
      have hlt' : (k : Int) < l.length := by omega
      have hr := hrec hlt
      rw [drop_some l k hlt]
      simp only [ref08_place_l0, xite_decide, xif_decide, length_rD, hlt', if_true, xElem_rD l k hlt, Option.bind_some, List.length_singleton, Nat.le_refl, getD_one, xDS_s, hw]
      by_cases he : l[k] = s
      · simp only [he, if_true, List.mem_cons, true_or, ix]; rfl
      · have he' : ¬ s = l[k] := fun e => he e.symm
        simp only [he, if_false, List.mem_cons, he', false_or, ix]
        rw [show k + (ix s (l.drop (k + 1)) + 1) = k + 1 + ix s (l.drop (k + 1)) by omega]
        exact hr
    · have hlt' : ¬ (k : Int) < l.length := by omega
      rw [List.drop_of_length_le (by omega)]
      simp only [ref08_place_l0, xite_decide, length_rD, hlt', if_false, List.not_mem_nil]) m 0 (by omega) (by omega)
  simpa using this
theorem slices_Index_spec (l : Row) (s : Txt) (hl : l.length ≤ 1000) (n : Nat) (hn : 1002 ≤ n) : (O0 n).Φ i_slices_Index_string_string [aR l, aS s] = some (aI (if s ∈ l then (ix s l : Int) else -1)) := by
  obtain ⟨m, rfl⟩ := nat_succ (n := n) (k := 0) (by omega)
  rw [slices_Index_string_string_run, slices_Index_string_string]
  have := iter_nat (F := fun (x : List (List D) × List UInt8 × Int × Int × Unit) (rec : (List (List D) × List UInt8 × Int × Int × Unit) → Option A) => slices_Index_string_string_l0 (O0 m).Φ m (fun s3 v4 i5 i6 => rec (s3, v4, i5, i6, ())) x.1 x.2.1 x.2.2.1 x.2.2.2.1) l.length (fun k => (rD l, s, ((rD l).length : Int), (k : Int), ())) (fun k => aI (if s ∈ l.drop k then ((k + ix s (l.drop k) : Nat) : Int) else -1)) (fun k rec hk hrec => by
    by_cases hlt : k < l.length
    · have hw := wrap_i (k + 1) (by omega) (by omega)
      have hlt' : (k : Int) < l.length := by omega
      have hr := hrec hlt
      rw [drop_some l k hlt]
      rw [length_rD] at hr
      simp only [slices_Index_string_string_l0, xite_decide, xif_decide, length_rD, hlt', if_true, xElem_rD l k hlt, Option.bind_some, List.length_singleton, Nat.le_refl, getD_one, xDS_s, hw]
      by_cases he : s = l[k]
      · have he' : l[k] = s := he.symm
        simp only [← he, if_true, List.mem_cons, true_or, ix]; rfl
      · have he' : ¬ l[k] = s := fun e => he e.symm
        simp only [he, if_false, List.mem_cons, he', false_or, ix]
        rw [show k + (ix s (l.drop (k + 1)) + 1) = k + 1 + ix s (l.drop (k + 1)) by omega]
        exact hr
    · have hlt' : ¬ (k : Int) < l.length := by omega
      rw [List.drop_of_length_le (by omega)]
      simp only [slices_Index_string_string_l0, xite_decide, length_rD, hlt', if_false, List.not_mem_nil]) m 0 (by omega) (by omega)
  simpa using this
theorem ref08_distinct_spec (l : Row) (hl : l.length ≤ 900) (n : Nat) (hn : 1010 ≤ n) : (O0 n).Φ i_ref08_distinct [aR l] = some (aR (dst l)) := by
  obtain ⟨m, rfl⟩ := nat_succ (n := n) (k := 0) (by omega)
  rw [ref08_distinct_run, ref08_distinct]
  simp only [decide_true, xif_tt]
  refine iter_ex' (R := A) l.length (fun k x => x = (rD l, rD (dst (l.take k)), (k : Int), ())) _ (fun k x rec hk hx hrec => ?_) m 0 _ (by omega) (by omega) rfl
  subst hx
  by_cases hlt : k < l.length
  · have hw := wrap_i (k + 1) (by omega) (by omega)
    have hlt' : (k : Int) < l.length := by omega
    have hdl := dst_len (l.take k)
    have htl : (l.take k).length ≤ 900 := by simp; omega
    have hp := ref08_place_spec (dst (l.take k)) l[k] (by omega) m (by omega)
    have hs : dst (l.take (k + 1)) = addF (dst (l.take k)) l[k] := by rw [List.take_succ_eq_append_getElem hlt, dst_snoc]
    have ha := xApp_rD (dst (l.take k)) l[k] (by omega)
    simp only [ref08_distinct_l0, xite_decide, xif_decide, length_rD, hlt', if_true, xElem_rD l k hlt, Option.bind_some, List.length_singleton, Nat.le_refl, getD_one, xDS_s, hp, xAD_d, xDI_v]
    by_cases hm : l[k] ∈ dst (l.take k)
    · have h0 : ¬ ((ix l[k] (dst (l.take k)) : Nat) : Int) < 0 := by omega
      simp only [hm, if_true, h0, if_false, hw]
      exact hrec _ hlt (by rw [hs, addF, if_pos hm]; rfl)
    · have h0 : (-1 : Int) < 0 := by omega
      rw [length_rD] at ha
      simp only [hm, if_false, h0, if_true, ha, Option.bind_some, hw]
      exact hrec _ hlt (by rw [hs, addF, if_neg hm]; rfl)
  · have hlt' : ¬ (k : Int) < l.length := by omega
    simp only [ref08_distinct_l0, xite_decide, length_rD, hlt', if_false]
    rw [List.take_of_length_le (by omega)]
theorem xElem_rD0 (r : Row) (h : 0 < r.length) : xElem 1 (rD r) (0 : Int) = some [.s (c0 r)] := by rw [show c0 r = r[0] by simp [c0, h]]; exact xElem_rD r 0 h
theorem xElem_rD1 (r : Row) (h : 1 < r.length) : xElem 1 (rD r) (1 : Int) = some [.s (c1 r)] := by rw [show c1 r = r[1] by simp [c1, h]]; exact xElem_rD r 1 h
theorem xElem_rD2 (r : Row) (h : 2 < r.length) : xElem 1 (rD r) (2 : Int) = some [.s (c2 r)] := by rw [show c2 r = r[2] by simp [c2, h]]; exact xElem_rD r 2 h
theorem ref08_value_spec (t : Tab) (h3 : ∀ r ∈ t, r.length = 3) (ht : t.length ≤ 1000) (k s : Txt) (n : Nat) (hn : 1002 ≤ n) : (O0 n).Φ i_ref08_value [aT t, aS k, aS s] = some (aS (valF t k s)) := by
  obtain ⟨m, rfl⟩ := nat_succ (n := n) (k := 0) (by omega)
  rw [ref08_value_run, ref08_value]
  refine iter_nat t.length (fun i => (tD t, k, s, (i : Int), ())) (fun i => aS (valF (t.drop i) k s)) (fun i rec hi hrec => ?_) m 0 (by omega) (by omega)
  by_cases hlt : i < t.length
  · have hw := wrap_i (i + 1) (by omega) (by omega)
    have hlt' : (i : Int) < t.length := by omega
    have hr := hrec hlt
    have hl := h3 _ (List.getElem_mem hlt)
    rw [drop_some t i hlt, valF]
    simp only [ref08_value_l0, xite_decide, xif_decide, length_tD, hlt', if_true, xElem_tD t i hlt, Option.bind_some, List.length_singleton, Nat.le_refl, getD_one, xDL_sl, xElem_rD0 t[i] (by omega), xElem_rD1 t[i] (by omega), xElem_rD2 t[i] (by omega), xDS_s, hw]
    by_cases h1 : c0 t[i] = k
    · by_cases h2 : c1 t[i] = s
      · simp only [h1, h2, if_true, and_self]
      · simp only [h1, h2, if_true, if_false, and_false]
        exact hr
    · simp only [h1, if_false, false_and]
      exact hr
  · have hlt' : ¬ (i : Int) < t.length := by omega
    rw [List.drop_of_length_le (by omega)]
    simp only [ref08_value_l0, xite_decide, length_tD, hlt', if_false, valF]
end Go.Av

set_option linter.unusedSimpArgs false
namespace Go.Av

theorem xApp_rD2 (a b : Row) (h : a.length + b.length ≤ 1000) : xApp 1 16 (rD a).length (rD a) (rD b) = some (rD (a ++ b)) := by
  unfold xApp
  rw [if_pos ⟨rfl, fun c hc => by simp only [rD, List.mem_map] at hc; obtain ⟨s, _, rfl⟩ := hc; rfl, fun c hc => by simp only [rD, List.mem_map] at hc; obtain ⟨s, _, rfl⟩ := hc; rfl, by simp; omega⟩]
  simp [rD]
theorem xApp_tD (a : Tab) (r : Row) (h : a.length ≤ 1000) : xApp 1 24 (tD a).length (tD a) [[.sl (rD r)]] = some (tD (a ++ [r])) := by
  unfold xApp
  rw [if_pos ⟨rfl, by simp, fun c hc => by simp only [tD, List.mem_map] at hc; obtain ⟨s, _, rfl⟩ := hc; rfl, by simp; omega⟩]
  simp [tD]
theorem pivT_snoc (t : Tab) (l : Row) (N : Row) (i : Nat) (h : i < l.length) : (l.take (i + 1)).map (fun k => k :: N.map (valF t k)) = (l.take i).map (fun k => k :: N.map (valF t k)) ++ [l[i] :: N.map (valF t l[i])] := by
  rw [List.take_succ_eq_append_getElem h, List.map_append]; rfl

theorem ref08_Pivot_rows (t : Tab) (h3 : ∀ r ∈ t, r.length = 3) (ht : t.length ≤ 8) (K N : Row) (hK : K.length ≤ 8) (hN : N.length ≤ 8) (n : Nat) (hn : 1100 ≤ n) (f : Nat) (hf : 1001 ≤ f) :
    iter (fun (x : List (List D) × List (List D) × List (List D) × List (List D) × Int × Unit) (rec : (List (List D) × List (List D) × List (List D) × List (List D) × Int × Unit) → Option A) => ref08_Pivot_l2 (O0 n).Φ f (fun t47 keys48 names49 out50 i51 => rec (t47, keys48, names49, out50, i51, ())) x.1 x.2.1 x.2.2.1 x.2.2.2.1 x.2.2.2.2.1) f (tD t, rD K, rD N, tD [[] :: N], (0 : Int), ()) =
      some (two (aT (([] :: N) :: K.map fun k => k :: N.map (valF t k))) (aI 0)) := by
  refine iter_ex' (R := A) K.length (fun i x => x = (tD t, rD K, rD N, tD (([] :: N) :: (K.take i).map fun k => k :: N.map (valF t k)), (i : Int), ())) _ (fun i x rec hi hx hrec => ?_) f 0 _ (by omega) (by omega) rfl
  subst hx
  by_cases hlt : i < K.length
  · have hw := wrap_i (i + 1) (by omega) (by omega)
    have hlt' : (i : Int) < K.length := by omega
    simp only [ref08_Pivot_l2, xite_decide, xif_decide, length_rD, hlt', if_true, xElem_rD K i hlt, Option.bind_some, List.length_singleton, Nat.le_refl, getD_one, xDS_s]
    refine iter_ex' (R := A) N.length (fun j x => x = (tD t, rD K, rD N, tD (([] :: N) :: (K.take i).map fun k => k :: N.map (valF t k)), (i : Int), rD (K[i] :: (N.take j).map (valF t K[i])), (j : Int), ())) _ (fun j x rec2 hj hx hrec2 => ?_) f 0 _ (by omega) (by omega) rfl
    subst hx
    by_cases hjl : j < N.length
    · have hwj := wrap_i (j + 1) (by omega) (by omega)
      have hjl' : (j : Int) < N.length := by omega
      have hv := ref08_value_spec t h3 (by omega) K[i] N[j] n (by omega)
      have ha := xApp_rD (K[i] :: (N.take j).map (valF t K[i])) (valF t K[i] N[j]) (by simp; omega)
      simp only [ref08_Pivot_l3, xite_decide, xif_decide, length_rD, hjl', if_true, xElem_rD K i hlt, xElem_rD N j hjl, Option.bind_some, List.length_singleton, Nat.le_refl, getD_one, xDS_s, hv, xAD_d]
      rw [length_rD] at ha
      simp only [ha, Option.bind_some, if_true, hwj]
      refine hrec2 _ hjl ?_
      rw [List.take_succ_eq_append_getElem hjl, List.map_append]
      rfl
    · have hjl' : ¬ (j : Int) < N.length := by omega
      have hNt : N.take j = N := List.take_of_length_le (by omega)
      have ha := xApp_tD (([] :: N) :: (K.take i).map fun k => k :: N.map (valF t k)) (K[i] :: N.map (valF t K[i])) (by simp; omega)
      rw [hNt]
      rw [length_tD] at ha
      simp only [ref08_Pivot_l3, xite_decide, xif_decide, length_rD, length_tD, hjl', if_false, ha, Option.bind_some, if_true, hw]
      refine hrec _ hlt ?_
      rw [pivT_snoc t K N i hlt]
      rfl
  · have hlt' : ¬ (i : Int) < K.length := by omega
    simp only [ref08_Pivot_l2, xite_decide, length_rD, hlt', if_false]
    rw [List.take_of_length_le (by omega)]

theorem ref08_Pivot_spec (t : Tab) (n : Nat) (hn : 1201 ≤ n) : (O0 n).Φ i_ref08_Pivot [aT t] = some (two (aT (pivF t).1) (aI (pivF t).2)) := by
  obtain ⟨m, rfl⟩ := nat_succ (n := n) (k := 0) (by omega)
  rw [ref08_Pivot_run]
  simp only [ref08_Pivot, ref08_Check_spec t m (by omega), Option.bind_some, xAD_d, xDI_v, xite_decide, xite_not, length_tD, pivF]
  by_cases h0 : chk t = 0
  · have la := chk_len h0
    have hrows := chk_row h0
    simp only [h0, if_true, ne_eq, not_true, if_false]
    by_cases hl0 : t.length = 0
    · have hl0' : (t.length : Int) = 0 := by omega
      simp only [hl0, hl0', if_true]; rfl
    have hl0' : ¬ (t.length : Int) = 0 := by omega
    simp only [hl0, hl0', if_false, ref08_Columns_spec t m (by omega), Option.bind_some, xAD_d, xDI_v]
    by_cases hc : cols t = 3
    · have hc' : (cols t : Int) = 3 := by omega
      have h3 : ∀ r ∈ t, r.length = 3 := fun r hr => by have := (hrows r hr).2.2.1; omega
      simp only [hc, hc', if_true, not_true, if_false]
      generalize hfin : (if 8 ≤ (keysF t).length ∨ 8 ≤ (namesF t).length then ([], 2) else (pivT t, 0) : Tab × Int) = FIN
      have hE : ∀ b : Bool, two (aT (if b = true then (([], 6) : Tab × Int) else FIN).1) (aI (if b = true then (([], 6) : Tab × Int) else FIN).2) = if b = true then two (aT []) (aI 6) else two (aT FIN.1) (aI FIN.2) := fun b => by cases b <;> rfl
      rw [hE]
      refine iter_nat t.length (fun i => (tD t, (i : Int), ())) (fun i => if dup2 (t.take i) (t.drop i) = true then two (aT []) (aI 6) else two (aT FIN.1) (aI FIN.2)) (fun i rec hi hrec => ?_) m 0 (by omega) (by omega)
      by_cases hlt : i < t.length
      · have hw := wrap_i (i + 1) (by omega) (by omega)
        have hlt' : (i : Int) < t.length := by omega
        have hr := hrec hlt
        have hli := h3 _ (List.getElem_mem hlt)
        rw [drop_some t i hlt, dup2]
        rw [List.take_succ_eq_append_getElem hlt] at hr
        simp only [ref08_Pivot_l0, xite_decide, length_tD, hlt', if_true]
        refine iter_nat i (fun k => (tD t, (i : Int), (k : Int), ())) (fun k => if (((t.take i).drop k).any (fun q => same2 q t[i]) || dup2 (t.take i ++ [t[i]]) (t.drop (i + 1))) = true then two (aT []) (aI 6) else two (aT FIN.1) (aI FIN.2)) (fun k rec2 hk hrec2 => ?_) m 0 (by omega) (by omega)
        by_cases hkl : k < i
        · have hwk := wrap_i (k + 1) (by omega) (by omega)
          have hkl' : (k : Int) < (i : Int) := by omega
          have hr2 := hrec2 hkl
          have hkt : k < t.length := by omega
          have hlk := h3 _ (List.getElem_mem hkt)
          have hd : (t.take i).drop k = t[k] :: (t.take i).drop (k + 1) := by rw [drop_some (t.take i) k (by simp; omega)]; simp
          rw [hd, List.any_cons]
          simp only [ref08_Pivot_l1, xite_decide, xif_decide, hkl', if_true, xElem_tD t i hlt, xElem_tD t k hkt, Option.bind_some, List.length_singleton, Nat.le_refl, getD_one, xDL_sl, xElem_rD0 t[i] (by omega), xElem_rD1 t[i] (by omega), xElem_rD0 t[k] (by omega), xElem_rD1 t[k] (by omega), xDS_s, hwk]
          by_cases e1 : c0 t[i] = c0 t[k]
          · by_cases e2 : c1 t[i] = c1 t[k]
            · have hs : same2 t[k] t[i] = true := by simp [same2, e1, e2]
              simp only [e1, e2, if_true, hs, Bool.true_or]; rfl
            · have hs : same2 t[k] t[i] = false := by simp [same2]; intro _ e; exact e2 e.symm
              simp only [e1, e2, if_true, if_false, hs, Bool.false_or]
              exact hr2
          · have hs : same2 t[k] t[i] = false := by simp [same2]; intro e; exact absurd e.symm e1
            simp only [e1, if_false, hs, Bool.false_or]
            exact hr2
        · have hkl' : ¬ (k : Int) < (i : Int) := by omega
          have hd : (t.take i).drop k = [] := List.drop_of_length_le (by simp; omega)
          rw [hd]
          simp only [ref08_Pivot_l1, xite_decide, hkl', if_false, List.any_nil, Bool.false_or, hw]
          exact hr
      · have hlt' : ¬ (i : Int) < t.length := by omega
        rw [List.drop_of_length_le (by omega), dup2]
        have hk0 := ref08_column_spec t (by omega) 0 (fun r hr => by have := h3 r hr; omega) m (by omega)
        have hk1 := ref08_column_spec t (by omega) 1 (fun r hr => by have := h3 r hr; omega) m (by omega)
        have hd0 := ref08_distinct_spec (colF t 0) (by simp [colF]; omega) m (by omega)
        have hd1 := ref08_distinct_spec (colF t 1) (by simp [colF]; omega) m (by omega)
        rw [show dst (colF t 0) = keysF t from rfl] at hd0
        rw [show dst (colF t 1) = namesF t from rfl] at hd1
        have k1 : (keysF t).length ≤ 8 := by have := dst_len (t.map c0); simp at this; show (dst _).length ≤ 8; omega
        have k2 : (namesF t).length ≤ 8 := by have := dst_len (t.map c1); simp at this; show (dst _).length ≤ 8; omega
        have ha := xApp_rD2 [[]] (namesF t) (by simp; omega)
        have hrow := ref08_Pivot_rows t h3 (by omega) (keysF t) (namesF t) k1 k2 m (by omega) m (by omega)
        have q1 : ((8 : Int) ≤ ((keysF t).length : Nat)) ↔ 8 ≤ (keysF t).length := by omega
        have q2 : ((8 : Int) ≤ ((namesF t).length : Nat)) ↔ 8 ≤ (namesF t).length := by omega
        have ha' : xApp 1 16 (([[D.s []]] : List (List D)).length) ([[D.s []]] : List (List D)) (rD (namesF t)) = some (rD ([] :: namesF t)) := ha
        have hk0' : (O0 m).Φ i_ref08_column [aT t, aI 0] = some (aR (colF t 0)) := hk0
        have hk1' : (O0 m).Φ i_ref08_column [aT t, aI 1] = some (aR (colF t 1)) := hk1
        simp only [ref08_Pivot_l0, xite_decide, length_tD, hlt', if_false, hk0', hk1', hd0, hd1, Option.bind_some, xAD_d, xDL_sl, length_rD, q1, q2, Bool.false_eq_true]
        rw [← hfin]
        by_cases p1 : 8 ≤ (keysF t).length
        · simp only [p1, true_or, if_true]; rfl
        · by_cases p2 : 8 ≤ (namesF t).length
          · simp only [p1, p2, or_true, if_true, if_false]; rfl
          · simp only [p1, p2, or_self, if_false, ha', Option.bind_some, decide_true, xif_tt]
            exact hrow
    · have hc' : ¬ (cols t : Int) = 3 := by omega
      simp only [hc, hc', if_false, not_false_eq_true, if_true]; rfl
  · simp only [h0, if_false, ne_eq, not_false_eq_true, if_true]; rfl
end Go.Av

set_option linter.unusedSimpArgs false
namespace Go.Av

/-! A list behind a pointer that grows by what it has not. -/
theorem entry_Ψ {H : Hp} {b : Nat} {c : C} {ex : Bool} {l : Row} (hb : hGet H b = some ⟨[c], ex⟩) (hr : RwP (some false) H c l) (hcb : c.hid ≠ some b) (hl : l.length ≤ 100) (s : Txt) (n : Nat) (hn : 1010 ≤ n) :
    ∃ c' H', (O0 n).Ψ i_tables_entry [.one (.hp b 0), aS s] H = some (aI (ix s l : Int), H') ∧ hGet H' b = some ⟨[c'], ex⟩ ∧ RwP (some false) H' c' (addF l s) ∧
      (∀ q, q < H.length → q ≠ b → c.hid ≠ some q → hGet H' q = hGet H q) ∧ H.length ≤ H'.length ∧ ∀ q, c'.hid = some q → c.hid = some q ∨ H.length ≤ q := by
  obtain ⟨m, rfl⟩ := nat_succ (n := n) (k := 0) (by omega)
  rw [tables_entry_runH]
  have hN : hNilC (.hp b 0) = some (.hp b 0) := rfl
  have hL : hLoad H (.hp b 0) = some c := by simp only [hLoad, hb, Option.bind_some]; rfl
  have hx := slices_Index_spec l s (by omega) m (by omega)
  have hlow := hr.rd.low 2
  have hok : ∀ z : Int, xokR (aI z) = true := fun _ => rfl
  simp only [tables_entry, hN, hL, Option.bind_some, hlow, hx, xAD_d, xDI_v, xite_decide, hr.rd.len]
  by_cases hm : s ∈ l
  · have h0 : ¬ ((ix s l : Nat) : Int) < 0 := by omega
    simp only [hm, if_true, h0, if_false, hok, xif_tt]
    refine ⟨c, H, rfl, hb, ?_, fun q _ _ _ => rfl, Nat.le_refl _, fun q hq => .inl hq⟩
    rw [addF, if_pos hm]; exact hr
  · have h0 : (-1 : Int) < 0 := by omega
    obtain ⟨c', H', a1, a2, a3, a4⟩ := hr.app s []
    have hcs : hCells H (.full [[D.s s]]) = some ([s].map sC) := hCells_full H [s]
    have hsz : (l.length + ([s].map sC).length) * 16 ≤ 140737488355328 := by rw [List.length_map, List.length_singleton]; omega
    have hbl := hGet_lt hb
    have hb' : hGet H' b = some ⟨[c], ex⟩ := by rw [a3.2 b hbl hcb]; exact hb
    have hst : hStore H' (.hp b 0) c' = some (H'.set b (some ⟨[c'], ex⟩)) := by
      simp only [hStore, hb', Option.bind_some]
      rw [if_pos ⟨by simp, a2.rd.hok⟩]
      rfl
    have hix : ix s l = l.length := ix_none s l hm
    have hidb : c'.hid ≠ some b := fun e => by
      rcases a4 b e with h | h
      · exact hcb h
      · omega
    simp only [hm, if_false, h0, if_true, hcs, Option.bind_some, hsz, decide_true, xif_tt, a1, hst, hok]
    refine ⟨c', H'.set b (some ⟨[c'], ex⟩), by rw [hix], hGet_set_self (hGet_lt hb') _, ?_, fun q hq hqb hcq => ?_, by rw [List.length_set]; exact a3.1, a4⟩
    · rw [addF, if_neg hm]
      exact a2.keep fun q hq => hGet_set_ne (fun e => hidb (by rw [← e]; exact hq)) _
    · rw [hGet_set_ne hqb]; exact a3.2 q hq hcq

/-! The map. -/
def mkM (p : Tab) (K N : Row) : List MKV := p.map fun r => (((ix (c0 r) K : Int), (ix (c1 r) N : Int)), c2 r)
theorem mkM_add (p : Tab) (K N : Row) (x y : Txt) (hK : ∀ r ∈ p, c0 r ∈ K) (hN : ∀ r ∈ p, c1 r ∈ N) : mkM p (addF K x) (addF N y) = mkM p K N := by
  unfold mkM
  apply List.map_congr_left
  intro r hr
  rw [ix_addF K x _ (hK r hr), ix_addF N y _ (hN r hr)]
theorem mfind_val (K N : Row) (k s : Txt) : ∀ p : Tab, (∀ r ∈ p, c0 r ∈ K) → (∀ r ∈ p, c1 r ∈ N) → (mfind ((ix k K : Int), (ix s N : Int)) (mkM p K N)).getD [] = valF p k s
  | [], _, _ => rfl
  | r :: p, hK, hN => by
    have ih := mfind_val K N k s p (fun q hq => hK q (List.mem_cons_of_mem _ hq)) (fun q hq => hN q (List.mem_cons_of_mem _ hq))
    show (mfind _ ((((ix (c0 r) K : Int), (ix (c1 r) N : Int)), c2 r) :: mkM p K N)).getD [] = _
    rw [mfind, valF]
    by_cases h : c0 r = k ∧ c1 r = s
    · rw [if_pos h, if_pos (by rw [h.1, h.2])]; rfl
    · rw [if_neg h, if_neg (fun e => h ?_), ih]
      simp only [Prod.mk.injEq] at e
      exact ⟨ix_inj (hK r (List.mem_cons_self ..)) (by omega), ix_inj (hN r (List.mem_cons_self ..)) (by omega)⟩
theorem mfind_any (K N : Row) (r : Row) : ∀ p : Tab, (∀ r ∈ p, c0 r ∈ K) → (∀ r ∈ p, c1 r ∈ N) → (mfind ((ix (c0 r) K : Int), (ix (c1 r) N : Int)) (mkM p K N)).isSome = p.any fun q => same2 q r
  | [], _, _ => rfl
  | q :: p, hK, hN => by
    have ih := mfind_any K N r p (fun q hq => hK q (List.mem_cons_of_mem _ hq)) (fun q hq => hN q (List.mem_cons_of_mem _ hq))
    show (mfind _ ((((ix (c0 q) K : Int), (ix (c1 q) N : Int)), c2 q) :: mkM p K N)).isSome = _
    rw [mfind, List.any_cons]
    by_cases h : c0 q = c0 r ∧ c1 q = c1 r
    · rw [if_pos (by rw [h.1, h.2])]
      simp [same2, h.1, h.2]
    · have hs : same2 q r = false := by
        cases e : same2 q r
        · rfl
        · simp only [same2, Bool.and_eq_true, decide_eq_true_eq] at e; exact absurd e h
      rw [if_neg (fun e => h ?_), ih, hs, Bool.false_or]
      simp only [Prod.mk.injEq] at e
      exact ⟨ix_inj (hK q (List.mem_cons_self ..)) (by omega), ix_inj (hN q (List.mem_cons_self ..)) (by omega)⟩

/-! Rows that grow; tables that grow, whatever their block is like. -/
def GrR (n : Nat) (H : Hp) (c : C) (r : Row) : Prop := c = .full (rD r) ∨ ∃ k, n ≤ k ∧ c = .hs k 0 r.length ∧ hGet H k = some ⟨r.map sC, false⟩
theorem GrR.rd {n : Nat} {H : Hp} {c : C} {r : Row} (h : GrR n H c r) : RdR H c r := by
  rcases h with rfl | ⟨k, _, rfl, h2⟩
  · exact .inr (.inl rfl)
  · exact .inr (.inr ⟨k, 0, _, rfl, h2, by simp, fun j s hj => by simp [hj]⟩)
theorem GrR.hid {n : Nat} {H : Hp} {c : C} {r : Row} (h : GrR n H c r) (k : Nat) (hk : c.hid = some k) : n ≤ k := by
  rcases h with rfl | ⟨k', h1, rfl, _⟩
  · cases hk
  · simp only [C.hid, Option.some.injEq] at hk; omega
theorem GrR.app {n : Nat} {H : Hp} {c : C} {r : Row} (h : GrR n H c r) (hn : n ≤ H.length) (q : Row) : ∃ c' H', hApp H c (q.map sC) = some (c', H') ∧ GrR n H' c' (r ++ q) ∧ Ext n H H' := by
  cases q with
  | nil =>
    rw [List.append_nil]
    refine ⟨c, H, ?_, h, .refl hn⟩
    rcases h with rfl | ⟨k, _, rfl, _⟩ <;> rfl
  | cons s q =>
    rcases h with rfl | ⟨k, h1, rfl, h2⟩
    · refine ⟨.hs H.length 0 (r.length + (q.length + 1)), H ++ [some ⟨(r ++ s :: q).map sC, false⟩], ?_, .inr ⟨H.length, hn, by simp, hGet_push H _⟩, .push hn _⟩
      simp only [List.map_cons, hApp, xOnes_rD, Option.bind_some, List.length_cons, List.length_map, length_rD]
      simp
    · have hkl := hGet_lt h2
      refine ⟨.hs H.length 0 (r.length + (q.length + 1)), H.set k none ++ [some ⟨(r ++ s :: q).map sC, false⟩], ?_, .inr ⟨H.length, hn, by simp, by have := hGet_push (H.set k none) ⟨(r ++ s :: q).map sC, false⟩; simpa using this⟩, ?_⟩
      · simp only [List.map_cons, hApp, h2, Option.bind_some]
        rw [if_pos (by simp), if_neg (by simp), if_neg (by simp), if_pos trivial]
        simp [List.map_append, List.take_of_length_le]
      · exact (Ext.set hn h1 none).trans (.push (by simpa using hn) _)
def OwX (n : Nat) (H : Hp) (c : C) (t : Tab) : Prop :=
  ∃ k cs b, n ≤ k ∧ c = .hs k 0 t.length ∧ hGet H k = some ⟨cs, b⟩ ∧ cs.length = t.length ∧ ∀ (i : Nat) (r : Row), t[i]? = some r → ∃ rc, cs[i]? = some rc ∧ RdR H rc r ∧ rc.hid ≠ some k ∧ ∀ q, rc.hid = some q → n ≤ q
theorem OwX.rd {n : Nat} {H : Hp} {c : C} {t : Tab} (h : OwX n H c t) : RdT H c t := by
  obtain ⟨k, cs, b, _, rfl, h2, h3, h4⟩ := h
  refine .inr (.inr ⟨k, 0, _, rfl, h2, by simp [h3], fun i r hr => ?_⟩)
  obtain ⟨rc, g1, g2, _⟩ := h4 i r hr
  exact ⟨rc, by simpa using g1, g2⟩
theorem OwX.ext {n : Nat} {H H' : Hp} {c : C} {t : Tab} (h : OwX n H c t) (hx : Ext H.length H H') : OwX n H' c t := by
  obtain ⟨k, cs, b, h1, h2, h3, h4, h5⟩ := h
  refine ⟨k, cs, b, h1, h2, by rw [hx.2 k (hGet_lt h3)]; exact h3, h4, fun i r hr => ?_⟩
  obtain ⟨rc, g1, g2, g3⟩ := h5 i r hr
  exact ⟨rc, g1, g2.ext hx g2.lt, g3⟩
theorem OwT.x {n : Nat} {H : Hp} {c : C} {t : Tab} (h : OwT n H c t) (ht : 0 < t.length) : OwX n H c t := by
  rcases h with ⟨rfl, _⟩ | ⟨k, cs, h1, h2, h3, h4, h5⟩
  · simp at ht
  · exact ⟨k, cs, false, h1, h2, h3, h4, h5⟩
theorem OwX.row {n : Nat} {H : Hp} {c : C} {t : Tab} (h : OwX n H c t) (hn : n ≤ H.length) {rc : C} {r : Row} (hr : RdR H rc r) (hid : ∀ k, rc.hid = some k → n ≤ k ∧ c.hid ≠ some k) :
    ∃ c' H', hApp (H ++ [some ⟨[rc], true⟩]) c [rc] = some (c', H') ∧ OwX n H' c' (t ++ [r]) ∧ Ext n H H' := by
  obtain ⟨k, cs, b, h1, rfl, h3, h4, h5⟩ := h
  cases b with
  | false =>
    have ho : OwT n H (.hs k 0 t.length) t := .inr ⟨k, cs, h1, rfl, h3, h4, h5⟩
    obtain ⟨c', H', a1, a2, a3⟩ := ho.row hn hr hid
    exact ⟨c', H', a1, a2.x (by simp), a3⟩
  | true =>
    have hkl := hGet_lt h3
    have hb : hGet (H ++ [some (⟨[rc], true⟩ : HO)]) k = some ⟨cs, true⟩ := by rw [hGet_push_lt hkl]; exact h3
    have hnew := hGet_push (H ++ [some (⟨[rc], true⟩ : HO)]) ⟨cs ++ [rc], false⟩
    refine ⟨.hs (H ++ [some (⟨[rc], true⟩ : HO)]).length 0 (t.length + 1), H ++ [some ⟨[rc], true⟩] ++ [some ⟨cs ++ [rc], false⟩], ?_, ⟨_, cs ++ [rc], false, by simp; omega, by simp, hnew, by simp [h4], fun i q hq => ?_⟩, (Ext.push hn _).trans (.push (by simp; omega) _)⟩
    · simp only [hApp, hb, Option.bind_some]
      rw [if_pos (by omega), if_neg (by simp [h4]), if_pos trivial]
      simp [List.take_of_length_le (by omega : cs.length ≤ t.length)]
    · have kp : ∀ (rj : C) (q : Row), RdR H rj q → RdR (H ++ [some (⟨[rc], true⟩ : HO)] ++ [some (⟨cs ++ [rc], false⟩ : HO)]) rj q ∧ rj.hid ≠ some (H ++ [some (⟨[rc], true⟩ : HO)]).length := fun rj q g2 => by
        refine ⟨g2.keep fun j hj => ?_, fun e => ?_⟩
        · have hjl := g2.lt j hj
          rw [hGet_push_lt (by simp; omega), hGet_push_lt hjl]
        · have := g2.lt _ e; simp at this; omega
      rw [List.getElem?_append] at hq
      split at hq
      · rename_i hlt
        obtain ⟨rj, g1, g2, _, g4⟩ := h5 i q hq
        obtain ⟨e1, e2⟩ := kp rj q g2
        exact ⟨rj, by rw [List.getElem?_append_left (by omega)]; exact g1, e1, e2, g4⟩
      · rename_i hge
        have hi0 : i - t.length = 0 := by
          have := (List.getElem?_eq_some_iff.1 hq).1
          simp at this; omega
        rw [hi0] at hq
        simp only [List.getElem?_cons_zero, Option.some.injEq] at hq
        subst hq
        obtain ⟨e1, e2⟩ := kp rc r hr
        exact ⟨rc, by rw [List.getElem?_append_right (by omega), h4, hi0]; rfl, e1, e2, fun q hq => (hid q hq).1⟩

/-- The rows that are put out. -/
theorem tables_Pivot_rows (n0 : Nat) (K N : Row) (M : List MKV) (g : Txt → Txt → Txt) (hg : ∀ (i j : Nat) (hi : i < K.length) (hj : j < N.length), (mfind ((i : Int), (j : Int)) M).getD [] = g K[i] N[j]) (hK : K.length ≤ 8) (hN : N.length ≤ 8)
    (cn ck : C) (B0 : Row) (Φ : Phi) (Ψ : Psi) (f : Nat) (hf : 1001 ≤ f) (H : Hp) (out : C) (ho : OwX n0 H out [B0]) (hn0 : n0 ≤ H.length) (h2 : 2 ≤ n0)
    (hnb : hGet H 1 = some ⟨[cn], true⟩) (hcn : RdR H cn N) (hcn0 : ∀ q, cn.hid = some q → q < n0) (hck : RdR H ck K) (hck0 : ∀ q, ck.hid = some q → q < n0) :
    ∃ c' H', iter (fun (x : Hp × C × Unit × C × C × Int × Int × (List ((Int × Int) × List UInt8)) × Unit) (rec : (Hp × C × Unit × C × C × Int × Int × (List ((Int × Int) × List UInt8)) × Unit) → Option (A × Hp)) => tables_Pivot_l1 Φ Ψ f (fun H45 names46 out47 c48 i49 i50 m51 => rec (H45, names46, (), out47, c48, i49, i50, m51, ())) x.1 x.2.1 x.2.2.2.1 x.2.2.2.2.1 x.2.2.2.2.2.1 x.2.2.2.2.2.2.1 x.2.2.2.2.2.2.2.1) f (H, .hp 1 0, (), out, ck, (K.length : Int), (0 : Int), M, ()) = some (.tup [.one c', aI 0], H') ∧ RdT H' c' (B0 :: K.map fun k => k :: N.map (g k)) := by
  have hokp : C.hok (.hp 1 0) = true := rfl
  have key := iter_ex (R := A × Hp) K.length (fun i (x : Hp × C × Unit × C × C × Int × Int × (List ((Int × Int) × List UInt8)) × Unit) => ∃ H1 out, x = (H1, .hp 1 0, (), out, ck, (K.length : Int), (i : Int), M, ()) ∧ OwX n0 H1 out (B0 :: (K.take i).map fun k => k :: N.map (g k)) ∧ Ext n0 H H1) (fun p => ∃ c' H', p = (.tup [.one c', aI 0], H') ∧ RdT H' c' (B0 :: K.map fun k => k :: N.map (g k)))
    (F := fun (x : Hp × C × Unit × C × C × Int × Int × (List ((Int × Int) × List UInt8)) × Unit) (rec : (Hp × C × Unit × C × C × Int × Int × (List ((Int × Int) × List UInt8)) × Unit) → Option (A × Hp)) => tables_Pivot_l1 Φ Ψ f (fun H45 names46 out47 c48 i49 i50 m51 => rec (H45, names46, (), out47, c48, i49, i50, m51, ())) x.1 x.2.1 x.2.2.2.1 x.2.2.2.2.1 x.2.2.2.2.2.1 x.2.2.2.2.2.2.1 x.2.2.2.2.2.2.2.1)
    (fun i x rec hi hx hrec => by
      obtain ⟨H1, out, rfl, ho, he⟩ := hx
      by_cases hlt : i < K.length
      · have hw := wrap_i (i + 1) (by omega) (by omega)
        have hlt' : (i : Int) < (K.length : Nat) := by omega
        have hck1 := hck.ext he hck0
        have hcn1 := hcn.ext he hcn0
        obtain ⟨p, a1, a2⟩ := hck1.at i hlt
        have hnl : hLoad H1 (.hp 1 0) = some cn := by simp only [hLoad, he.2 1 (by omega), hnb, Option.bind_some]; rfl
        have hol := ho.rd.hok
        simp only [tables_Pivot_l1, xite_decide, hlt', if_true, a1, a2, xS_s, Option.bind_some, hnl, hcn1.len, hokp, hol, hck1.hok, xif_tt]
        have hBl : (B0 :: (K.take i).map fun k => k :: N.map (g k)).length ≤ 20 := by simp; omega
        generalize hB : (B0 :: (K.take i).map fun k => k :: N.map (g k)) = B at ho hBl
        have hnext : B0 :: (K.take (i + 1)).map (fun k => k :: N.map (g k)) = B ++ [K[i] :: N.map (g K[i])] := by
          rw [List.take_succ_eq_append_getElem hlt, List.map_append, ← hB]; rfl
        have hgi := fun j hj => hg i j hlt hj
        generalize K[i] = kk at hgi hnext
        refine iter_ex (R := A × Hp) N.length (fun j (x : Hp × C × Unit × C × Int × C × C × Int × Int × Int × Int × (List ((Int × Int) × List UInt8)) × Unit) => ∃ H2 rc, x = (H2, .hp 1 0, (), out, (i : Int), rc, ck, (K.length : Int), (i : Int), (N.length : Int), (j : Int), M, ()) ∧ GrR H1.length H2 rc (kk :: (N.take j).map (g kk)) ∧ Ext H1.length H1 H2) _
          (fun j x rec2 hj hx hrec2 => by
            obtain ⟨H2, rc, rfl, hgr, hex⟩ := hx
            have ho2 := ho.ext hex
            have hrl : (kk :: (N.take j).map (g kk)).length ≤ 9 := by simp; omega
            by_cases hjl : j < N.length
            · have hwj := wrap_i (j + 1) (by omega) (by omega)
              have hjl' : (j : Int) < (N.length : Nat) := by omega
              obtain ⟨c', H3, b1, b2, b3⟩ := hgr.app hex.1 [g kk N[j]]
              have hcs : hCells H2 (.full [[D.s (g kk N[j])]]) = some ([g kk N[j]].map sC) := hCells_full H2 [g kk N[j]]
              have hlen := hgr.rd.len
              have hsz : ((kk :: (N.take j).map (g kk)).length + ([g kk N[j]].map sC).length) * 16 ≤ 140737488355328 := by rw [List.length_map, List.length_singleton]; omega
              simp only [tables_Pivot_l2, xite_decide, hjl', if_true, hlen, hgi j hjl, hcs, Option.bind_some, hsz, decide_true, xif_tt, b1, hokp, hol, b2.rd.hok, hck1.hok, hwj]
              refine hrec2 _ hjl ⟨H3, c', rfl, ?_, hex.trans b3⟩
              rw [List.take_succ_eq_append_getElem hjl, List.map_append]
              exact b2
            · have hjl' : ¬ (j : Int) < (N.length : Nat) := by omega
              rw [List.take_of_length_le (by omega)] at hgr
              obtain ⟨c', H3, b1, b2, b3⟩ := ho2.row (by have := he.1; have := hex.1; omega) hgr.rd (fun k hk => ⟨by have := hgr.hid k hk; have := he.1; omega, fun e => by
                have := hgr.hid k hk
                have := ho.rd.lt k e
                omega⟩)
              have hsz : (B.length + [rc].length) * 24 ≤ 140737488355328 := by rw [List.length_singleton]; omega
              simp only [tables_Pivot_l2, xite_decide, hjl', if_false, oneCs_one hgr.rd.hok, hPush, Option.bind_some, ho2.rd.len, hCells_box, hsz, decide_true, xif_tt, b1, hokp, b2.rd.hok, hck1.hok, hw]
              refine hrec _ hlt ⟨H3, c', rfl, by rw [hnext]; exact b2, (he.trans (hex.le he.1)).trans b3⟩) f 0 (H1, .hp 1 0, (), out, (i : Int), .full (rD [kk]), ck, (K.length : Int), (i : Int), (N.length : Int), (0 : Int), M, ()) (by omega) (by omega) ⟨H1, .full (rD [kk]), rfl, .inl rfl, .refl (Nat.le_refl _)⟩
      · have hlt' : ¬ (i : Int) < (K.length : Nat) := by omega
        have hok : xokR (.tup [.one out, aI 0]) = true := by have := ho.rd.hok; simp only [xokR, List.all_cons, List.all_nil, xokC, this]; rfl
        rw [List.take_of_length_le (by omega)] at ho
        simp only [tables_Pivot_l1, xite_decide, hlt', if_false, hok, xif_tt]
        exact ⟨_, rfl, out, H1, rfl, ho.rd⟩) f 0 (H, .hp 1 0, (), out, ck, (K.length : Int), (0 : Int), M, ()) (by omega) (by omega) ⟨H, out, rfl, ho, .refl hn0⟩
  obtain ⟨_, hr, c', H', rfl, h1⟩ := key
  exact ⟨c', H', hr, h1⟩
end Go.Av

set_option linter.unusedSimpArgs false
namespace Go.Av

/-- The two lists behind their pointers. -/
structure PivI (H : Hp) (ck cn : C) (K N : Row) : Prop where
  kb : hGet H 0 = some ⟨[ck], true⟩
  nb : hGet H 1 = some ⟨[cn], true⟩
  kr : RwP (some false) H ck K
  nr : RwP (some false) H cn N
  k2 : ∀ q, ck.hid = some q → 2 ≤ q
  n2 : ∀ q, cn.hid = some q → 2 ≤ q
  kn : ∀ q, ck.hid = some q → cn.hid ≠ some q
  len : 2 ≤ H.length
theorem PivI.key {H : Hp} {ck cn : C} {K N : Row} (h : PivI H ck cn K N) (hl : K.length ≤ 100) (s : Txt) (n : Nat) (hn : 1010 ≤ n) :
    ∃ c' H', (O0 n).Ψ i_tables_entry [.one (.hp 0 0), aS s] H = some (aI (ix s K : Int), H') ∧ PivI H' c' cn (addF K s) N := by
  obtain ⟨c', H', e1, e2, e3, e4, e5, e6⟩ := entry_Ψ h.kb h.kr (fun e => by have := h.k2 0 e; omega) hl s n hn
  have hnl : ∀ q, cn.hid = some q → q < H.length := fun q hq => h.nr.rd.lt q hq
  refine ⟨c', H', e1, e2, ?_, e3, h.nr.keep fun q hq => e4 q (hnl q hq) (by have := h.n2 q hq; omega) fun e => h.kn q e hq, fun q hq => ?_, h.n2, fun q hq e => ?_, Nat.le_trans h.len e5⟩
  · rw [e4 1 (by have := h.len; omega) (by omega) fun e => by have := h.k2 1 e; omega]; exact h.nb
  · rcases e6 q hq with h1 | h1
    · exact h.k2 q h1
    · have := h.len; omega
  · rcases e6 q hq with h1 | h1
    · exact h.kn q h1 e
    · have := hnl q e; omega
theorem PivI.name {H : Hp} {ck cn : C} {K N : Row} (h : PivI H ck cn K N) (hl : N.length ≤ 100) (s : Txt) (n : Nat) (hn : 1010 ≤ n) :
    ∃ c' H', (O0 n).Ψ i_tables_entry [.one (.hp 1 0), aS s] H = some (aI (ix s N : Int), H') ∧ PivI H' ck c' K (addF N s) := by
  obtain ⟨c', H', e1, e2, e3, e4, e5, e6⟩ := entry_Ψ h.nb h.nr (fun e => by have := h.n2 1 e; omega) hl s n hn
  have hkl : ∀ q, ck.hid = some q → q < H.length := fun q hq => h.kr.rd.lt q hq
  refine ⟨c', H', e1, ?_, e2, h.kr.keep fun q hq => e4 q (hkl q hq) (by have := h.k2 q hq; omega) fun e => h.kn q hq e, e3, h.k2, fun q hq => ?_, fun q hq e => ?_, Nat.le_trans h.len e5⟩
  · rw [e4 0 (by have := h.len; omega) (by omega) fun e => by have := h.n2 0 e; omega]; exact h.kb
  · rcases e6 q hq with h1 | h1
    · exact h.n2 q h1
    · have := h.len; omega
  · rcases e6 q e with h1 | h1
    · exact h.kn q hq h1
    · have := hkl q hq; omega

theorem hAt_c0 (r : Row) (h : 0 < r.length) : hAddr (.d (.sl (rD r))) (0 : Int) = some (.d (.pp [.s (c0 r)])) := by rw [show c0 r = r[0] by simp [c0, h]]; exact hAt_rD r 0 h
theorem hAt_c1 (r : Row) (h : 1 < r.length) : hAddr (.d (.sl (rD r))) (1 : Int) = some (.d (.pp [.s (c1 r)])) := by rw [show c1 r = r[1] by simp [c1, h]]; exact hAt_rD r 1 h
theorem hAt_c2 (r : Row) (h : 2 < r.length) : hAddr (.d (.sl (rD r))) (2 : Int) = some (.d (.pp [.s (c2 r)])) := by rw [show c2 r = r[2] by simp [c2, h]]; exact hAt_rD r 2 h

theorem keysF_snoc (t : Tab) (i : Nat) (h : i < t.length) : keysF (t.take (i + 1)) = addF (keysF (t.take i)) (c0 t[i]) := by
  unfold keysF; rw [List.take_succ_eq_append_getElem h, List.map_append]; exact dst_snoc _ _
theorem namesF_snoc (t : Tab) (i : Nat) (h : i < t.length) : namesF (t.take (i + 1)) = addF (namesF (t.take i)) (c1 t[i]) := by
  unfold namesF; rw [List.take_succ_eq_append_getElem h, List.map_append]; exact dst_snoc _ _
theorem keysF_mem (t : Tab) (r : Row) (h : r ∈ t) : c0 r ∈ keysF t := dst_mem _ _ (List.mem_map_of_mem h)
theorem namesF_mem (t : Tab) (r : Row) (h : r ∈ t) : c1 r ∈ namesF t := dst_mem _ _ (List.mem_map_of_mem h)
theorem keysF_len (t : Tab) : (keysF t).length ≤ t.length := by have := dst_len (t.map c0); rw [List.length_map] at this; exact this
theorem namesF_len (t : Tab) : (namesF t).length ≤ t.length := by have := dst_len (t.map c1); rw [List.length_map] at this; exact this
theorem keysF_nodup (t : Tab) : (keysF t).Nodup := dst_nodup _
theorem namesF_nodup (t : Tab) : (namesF t).Nodup := dst_nodup _

theorem tables_Pivot_loop (t : Tab) (h3 : ∀ r ∈ t, r.length = 3) (ht : t.length ≤ 8) (n : Nat) (hn : 1100 ≤ n) (f : Nat) (hf : 1001 ≤ f) (RES : Tab × Int)
    (hRES : RES = if dup2 [] t = true then ([], 6) else if 8 ≤ (keysF t).length ∨ 8 ≤ (namesF t).length then ([], 2) else (pivT t, 0)) :
    ∃ c' H', iter (fun (x : Hp × C × C × Unit × List (List D) × Int × Int × (List ((Int × Int) × List UInt8)) × Unit) (rec : (Hp × C × C × Unit × List (List D) × Int × Int × (List ((Int × Int) × List UInt8)) × Unit) → Option (A × Hp)) => tables_Pivot_l0 (O0 n).Φ (O0 n).Ψ f (fun H10 keys11 names12 l13 i14 i15 m16 => rec (H10, keys11, names12, (), l13, i14, i15, m16, ())) x.1 x.2.1 x.2.2.1 x.2.2.2.2.1 x.2.2.2.2.2.1 x.2.2.2.2.2.2.1 x.2.2.2.2.2.2.2.1) f ([some ⟨[.full []], true⟩, some ⟨[.full []], true⟩], .hp 0 0, .hp 1 0, (), tD t, (t.length : Int), (0 : Int), [], ()) = some (.tup [.one c', aI RES.2], H') ∧ RdT H' c' RES.1 := by
  have hokp : ∀ a b : Nat, C.hok (.hp a b) = true := fun _ _ => rfl
  have hok6 : ∀ z : Int, xokR (.tup [.one (.full []), aI z]) = true := fun _ => rfl
  have key := iter_ex (R := A × Hp) t.length (fun i (x : Hp × C × C × Unit × List (List D) × Int × Int × (List ((Int × Int) × List UInt8)) × Unit) => ∃ H1 ck cn, x = (H1, .hp 0 0, .hp 1 0, (), tD t, (t.length : Int), (i : Int), mkM (t.take i) (keysF (t.take i)) (namesF (t.take i)), ()) ∧ PivI H1 ck cn (keysF (t.take i)) (namesF (t.take i)) ∧ dup2 (t.take i) (t.drop i) = dup2 [] t) (fun p => ∃ c' H', p = (.tup [.one c', aI RES.2], H') ∧ RdT H' c' RES.1)
    (F := fun (x : Hp × C × C × Unit × List (List D) × Int × Int × (List ((Int × Int) × List UInt8)) × Unit) (rec : (Hp × C × C × Unit × List (List D) × Int × Int × (List ((Int × Int) × List UInt8)) × Unit) → Option (A × Hp)) => tables_Pivot_l0 (O0 n).Φ (O0 n).Ψ f (fun H10 keys11 names12 l13 i14 i15 m16 => rec (H10, keys11, names12, (), l13, i14, i15, m16, ())) x.1 x.2.1 x.2.2.1 x.2.2.2.2.1 x.2.2.2.2.2.1 x.2.2.2.2.2.2.1 x.2.2.2.2.2.2.2.1)
    (fun i x rec hi hx hrec => by
      obtain ⟨H1, ck, cn, rfl, hP, hdup⟩ := hx
      have kl := keysF_len (t.take i)
      have nl := namesF_len (t.take i)
      have tl : (t.take i).length ≤ 8 := by simp; omega
      by_cases hlt : i < t.length
      · have hw := wrap_i (i + 1) (by omega) (by omega)
        have hlt' : (i : Int) < (t.length : Nat) := by omega
        have hli := h3 _ (List.getElem_mem hlt)
        have hA : hAddr (.d (.sl (tD t))) (i : Int) = some (.d (.pp [.sl (rD t[i])])) := hAt_tD t i hlt
        have hs1 := keysF_snoc t i hlt
        have hs2 := namesF_snoc t i hlt
        have hs3 : t.take (i + 1) = t.take i ++ [t[i]] := List.take_succ_eq_append_getElem hlt
        rw [drop_some t i hlt, dup2] at hdup
        generalize t[i] = r at hli hA hs1 hs2 hs3 hdup
        obtain ⟨ck', H2, e1, p1⟩ := hP.key (by omega) (c0 r) n (by omega)
        obtain ⟨cn', H3, e2, p2⟩ := p1.name (by omega) (c1 r) n (by omega)
        have hany := mfind_any (keysF (t.take i)) (namesF (t.take i)) r (t.take i) (keysF_mem _) (namesF_mem _)
        simp only [tables_Pivot_l0, xite_decide, hlt', if_true, hA, hLoad_pp, hAt_c0 r (by omega), hAt_c1 r (by omega), hAt_c2 r (by omega), Option.bind_some, xS_s, hokp, xif_tt, e1, e2, xone_one, xI_i, hany]
        cases hd : (t.take i).any fun q => same2 q r
        · rw [hd, Bool.false_or] at hdup
          have hnone : (mfind ((ix (c0 r) (keysF (t.take i)) : Int), (ix (c1 r) (namesF (t.take i)) : Int)) (mkM (t.take i) (keysF (t.take i)) (namesF (t.take i)))).isNone = true := by
            rw [hd] at hany
            cases hm : mfind ((ix (c0 r) (keysF (t.take i)) : Int), (ix (c1 r) (namesF (t.take i)) : Int)) (mkM (t.take i) (keysF (t.take i)) (namesF (t.take i)))
            · rfl
            · rw [hm] at hany; cases hany
          simp only [xite_false, hnone, xif_tt, hw]
          refine hrec _ hlt ⟨H3, ck', cn', ?_, by rw [hs1, hs2]; exact p2, by rw [hs3]; exact hdup⟩
          congr 7
          rw [hs1, hs2, hs3]
          have : mkM (t.take i ++ [r]) (addF (keysF (t.take i)) (c0 r)) (addF (namesF (t.take i)) (c1 r)) = mkM (t.take i) (addF (keysF (t.take i)) (c0 r)) (addF (namesF (t.take i)) (c1 r)) ++ [(((ix (c0 r) (addF (keysF (t.take i)) (c0 r)) : Int), (ix (c1 r) (addF (namesF (t.take i)) (c1 r)) : Int)), c2 r)] := by
            unfold mkM; rw [List.map_append]; rfl
          rw [this, mkM_add _ _ _ _ _ (keysF_mem _) (namesF_mem _), ix_addF_self, ix_addF_self]
        · rw [hd, Bool.true_or] at hdup
          rw [← hdup, if_pos rfl] at hRES
          subst hRES
          simp only [xite_true, hok6, xif_tt]
          exact ⟨_, rfl, _, H3, rfl, .inr (.inl ⟨rfl, rfl⟩)⟩
      · have hlt' : ¬ (i : Int) < (t.length : Nat) := by omega
        have hti : t.take i = t := List.take_of_length_le (by omega)
        rw [List.drop_of_length_le (by omega), dup2] at hdup
        rw [hti] at hP kl nl
        rw [← hdup, if_neg (by simp)] at hRES
        have hLk : hLoad H1 (.hp 0 0) = some ck := by simp only [hLoad, hP.kb, Option.bind_some]; rfl
        have hLn : hLoad H1 (.hp 1 0) = some cn := by simp only [hLoad, hP.nb, Option.bind_some]; rfl
        have w1 : IntKind.i64.wrap (((keysF t).length : Int) + 1) = ((keysF t).length : Int) + 1 := wrap_i _ (by omega) (by omega)
        have w2 : IntKind.i64.wrap (((namesF t).length : Int) + 1) = ((namesF t).length : Int) + 1 := wrap_i _ (by omega) (by omega)
        have q1 : ((8 : Int) < ((keysF t).length : Nat) + 1) ↔ 8 ≤ (keysF t).length := by omega
        have q2 : ((8 : Int) < ((namesF t).length : Nat) + 1) ↔ 8 ≤ (namesF t).length := by omega
        simp only [tables_Pivot_l0, xite_decide, hlt', if_false, hLk, hLn, Option.bind_some, hP.kr.rd.len, hP.nr.rd.len, w1, w2, q1, q2, hok6, xif_tt, hti]
        by_cases s1 : 8 ≤ (keysF t).length
        · rw [if_pos (.inl s1)] at hRES
          subst hRES
          simp only [s1, if_true]
          exact ⟨_, rfl, _, H1, rfl, .inr (.inl ⟨rfl, rfl⟩)⟩
        · by_cases s2 : 8 ≤ (namesF t).length
          · rw [if_pos (.inr s2)] at hRES
            subst hRES
            simp only [s1, s2, if_true, if_false]
            exact ⟨_, rfl, _, H1, rfl, .inr (.inl ⟨rfl, rfl⟩)⟩
          · rw [if_neg (by omega)] at hRES
            subst hRES
            have hg0 : GrR H1.length H1 (.full (rD [[]])) [[]] := .inl rfl
            obtain ⟨c1', H2, a1, a2, a3⟩ := hg0.app (Nat.le_refl _) (namesF t)
            have a1' : hApp H1 (.full [[D.s []]]) ((namesF t).map sC) = some (c1', H2) := a1
            have hsz : (([[D.s []]] : List (List D)).length + ((namesF t).map sC).length) * 16 ≤ 140737488355328 := by rw [List.length_map]; simp; omega
            have hx2 : Ext H2.length H2 (H2 ++ [some ⟨[c1'], true⟩]) := .push (Nat.le_refl _) _
            have hx : Ext H1.length H1 (H2 ++ [some ⟨[c1'], true⟩]) := a3.trans (hx2.le a3.1)
            have hLk2 : hLoad (H2 ++ [some ⟨[c1'], true⟩]) (.hp 0 0) = some ck := by
              have : hGet (H2 ++ [some (⟨[c1'], true⟩ : HO)]) 0 = some ⟨[ck], true⟩ := by rw [hx.2 0 (by have := hP.len; omega)]; exact hP.kb
              simp only [hLoad, this, Option.bind_some]; rfl
            have hnb2 : hGet (H2 ++ [some (⟨[c1'], true⟩ : HO)]) 1 = some ⟨[cn], true⟩ := by rw [hx.2 1 (by have := hP.len; omega)]; exact hP.nb
            have hko := hP.kr.rd.lt
            have hno := hP.nr.rd.lt
            have hok1 : OwX H1.length (H2 ++ [some ⟨[c1'], true⟩]) (.hs H2.length 0 1) [[] :: namesF t] := by
              refine ⟨H2.length, [c1'], true, a3.1, rfl, hGet_push H2 _, rfl, fun i r hr => ?_⟩
              cases i with
              | zero =>
                simp only [List.getElem?_cons_zero, Option.some.injEq] at hr
                subst hr
                refine ⟨c1', rfl, a2.rd.ext hx2 a2.rd.lt, fun e => ?_, fun q hq => a2.hid q hq⟩
                have := a2.rd.lt _ e; omega
              | succ i => simp at hr
            obtain ⟨c', H', g1, g2⟩ := tables_Pivot_rows H1.length (keysF t) (namesF t) (mkM t (keysF t) (namesF t)) (valF t) (fun i j hi hj => by
              have := mfind_val (keysF t) (namesF t) (keysF t)[i] (namesF t)[j] t (keysF_mem t) (namesF_mem t)
              rw [ix_nodup (keysF_nodup t) i hi, ix_nodup (namesF_nodup t) j hj] at this
              exact this) (by omega) (by omega) cn ck ([] :: namesF t) (O0 n).Φ (O0 n).Ψ f hf (H2 ++ [some ⟨[c1'], true⟩]) (.hs H2.length 0 1) hok1 hx.1 hP.len hnb2 (hP.nr.rd.ext hx hno) hno (hP.kr.rd.ext hx hko) hko
            have hkok := hP.kr.rd.hok
            simp only [s1, s2, if_false, hP.nr.rd.cells, hsz, decide_true, xif_tt, a1', Option.bind_some, oneCs_one a2.rd.hok, hPush, hLk2, hP.kr.rd.len, hokp, hkok]
            exact ⟨_, g1, c', H', rfl, g2⟩) f 0 ([some ⟨[.full []], true⟩, some ⟨[.full []], true⟩], .hp 0 0, .hp 1 0, (), tD t, (t.length : Int), (0 : Int), [], ()) (by omega) (by omega) ⟨_, .full [], .full [], rfl, ⟨rfl, rfl, .inl ⟨rfl, rfl⟩, .inl ⟨rfl, rfl⟩, (fun q h => by cases h), (fun q h => by cases h), (fun q h => by cases h), by simp⟩, rfl⟩
  obtain ⟨_, hr, c', H', rfl, h1⟩ := key
  exact ⟨c', H', hr, h1⟩
theorem tables_Pivot_gen (t : Tab) (n : Nat) (hn : 1100 ≤ n) (f : Nat) (hf : 1001 ≤ f) :
    ∃ c H', tables_Pivot (O0 n).Φ (O0 n).Ψ f (tD t) [] = some (.tup [.one c, aI (pivF t).2], H') ∧ RdT H' c (pivF t).1 := by
  simp only [tables_Pivot, tables_Check_spec t n (by omega), Option.bind_some, xAD_d, xDI_v, xite_decide, xite_not, length_tD, pivF]
  by_cases h0 : chk t = 0
  · have la := chk_len h0
    have hrows := chk_row h0
    simp only [h0, if_true, ne_eq, not_true, if_false]
    by_cases hl0 : t.length = 0
    · have hl0' : (t.length : Int) = 0 := by omega
      simp only [hl0, hl0', if_true]
      exact ⟨_, _, rfl, .inr (.inl ⟨rfl, rfl⟩)⟩
    have hl0' : ¬ (t.length : Int) = 0 := by omega
    simp only [hl0, hl0', if_false, tables_columns_spec t n (by omega), Option.bind_some, xAD_d, xDI_v]
    by_cases hc : cols t = 3
    · have hc' : (cols t : Int) = 3 := by omega
      have h3 : ∀ r ∈ t, r.length = 3 := fun r hr => by have := (hrows r hr).2.2.1; omega
      simp only [hc, hc', if_true, not_true, if_false, hPush, Option.bind_some, List.length_nil, List.nil_append, List.length_singleton, List.singleton_append]
      exact tables_Pivot_loop t h3 la n hn f hf _ rfl
    · have hc' : ¬ (cols t : Int) = 3 := by omega
      simp only [hc, hc', if_false, not_false_eq_true, if_true]
      exact ⟨_, _, rfl, .inr (.inl ⟨rfl, rfl⟩)⟩
  · simp only [h0, if_false, ne_eq, not_false_eq_true, if_true]
    exact ⟨_, _, rfl, .inr (.inl ⟨rfl, rfl⟩)⟩
theorem tables_Pivot_spec (t : Tab) (n : Nat) (hn : 1101 ≤ n) : (O0 n).Φ i_tables_Pivot [aT t] = some (two (aT (pivF t).1) (aI (pivF t).2)) := by
  obtain ⟨m, rfl⟩ := nat_succ (n := n) (k := 0) (by omega)
  obtain ⟨c', H', h1, h2⟩ := tables_Pivot_gen t m (by omega) m (by omega)
  rw [tables_Pivot_run, h1, Option.bind_some]
  simp only [xlowR, xlowRs, h2.low 1, Option.bind_some]
  rfl

theorem unpF_shp (t : Tab) (k : Int) : (unpF t k).1.length ≤ 1000 ∧ ∀ r ∈ (unpF t k).1, r.length ≤ 1000 := by
  unfold unpF
  by_cases h0 : chk t = 0
  · have la := chk_len h0
    have hcols := chk_cols h0
    have hrows := chk_row h0
    simp only [h0, ne_eq, not_true, if_false]
    split
    · simp
    · split
      · simp
      · split
        · simp
        · refine ⟨?_, fun r hr => ?_⟩
          · show (unpT t k.toNat).length ≤ 1000
            rw [unpT_len]
            have := Nat.mul_le_mul (show t.length - 1 ≤ 8 by omega) (show cols t - k.toNat ≤ 8 by omega)
            omega
          · obtain ⟨q, hq, hr⟩ := List.mem_flatMap.1 hr
            obtain ⟨j, _, rfl⟩ := List.mem_map.1 hr
            have := hrows q (List.mem_of_mem_drop hq)
            simp only [List.length_append, List.length_take, List.length_cons, List.length_nil]
            omega
  · simp [h0]
theorem pivF_shp (t : Tab) : (pivF t).1.length ≤ 1000 ∧ ∀ r ∈ (pivF t).1, r.length ≤ 1000 := by
  unfold pivF
  by_cases h0 : chk t = 0
  · have la := chk_len h0
    have k1 := keysF_len t
    have k2 := namesF_len t
    simp only [h0, ne_eq, not_true, if_false]
    split
    · simp
    · split
      · simp
      · split
        · simp
        · split
          · simp
          · refine ⟨by simp [pivT]; omega, fun r hr => ?_⟩
            rcases List.mem_cons.1 hr with rfl | hr
            · simp; omega
            · obtain ⟨q, _, rfl⟩ := List.mem_map.1 hr
              simp; omega
  · simp [h0]
theorem tablesPivots_spec (t : Tab) (k : Int) (hk : -9223372036854775808 ≤ k ∧ k ≤ 9223372036854775807) (n : Nat) (hn : 1300 ≤ n) : (O0 n).Φ i_law08_TablesPivots [aT t, aI k] = some (aB true) := by
  obtain ⟨m, rfl⟩ := nat_succ (n := n) (k := 0) (by omega)
  rw [law08_TablesPivots_run]
  have e0 := awake_spec m (by omega)
  have e1 := ref08_Same_spec (unpF t k).1 (unpF t k).1 (unpF_shp t k).1 (unpF_shp t k).2 m (by omega)
  have e2 := ref08_Same_spec (pivF t).1 (pivF t).1 (pivF_shp t).1 (pivF_shp t).2 m (by omega)
  simp only [law08_TablesPivots, small_spec t m (by omega), Option.bind_some, xAD_d, xDB_v, xite_not]
  cases smallT t
  · simp only [xite_false, e0, Option.bind_some, xAD_d, xDB_v]
  · simp only [xite_true, tables_Unpivot_spec t k hk m (by omega), ref08_Unpivot_spec t k hk m (by omega), tables_Pivot_spec t m (by omega), ref08_Pivot_spec t m (by omega), Option.bind_some, xtup_tup, List.getElem?_cons_zero, List.getElem?_cons_succ, xAD_d, xDL_sl, xDI_v, xDB_v, e1, e2, e0, xite_decide, xite_true, if_true, decide_true]
end Go.Av
