/-
  What undoes itself: transposed twice, filled twice, unpivoted and pivoted. Plain laws, and the law.
-/
import Derived.Test.YtnfbgleaodkjpaaHtPiv4
import Derived.Test.YtnfbgleaodkjpaaHtSrtL
set_option linter.all false
set_option linter.unusedSimpArgs false
namespace Go.Av

theorem tr_tr {t : Tab} (h : chk t = 0) : trF (trF t) = t := by
  rcases Nat.eq_zero_or_pos t.length with hz | hz
  · have : t = [] := List.eq_nil_of_length_eq_zero hz
    subst this; rfl
  · have hc := chk_cols h
    have hc1 : 1 ≤ cols t := by have := chk_row h t[0] (List.getElem_mem hz); omega
    have := (tr_some h (List.range (cols t)) (fun k hk => List.mem_range.1 hk) (by simpa using hc1) (by simpa using hc) hz).2
    rw [trF_range h, this]
    have e : ∀ r ∈ t, (List.range (cols t)).map (fun k => r.getD k []) = id r := fun r hr => by
      have := range_getD r
      rw [(chk_row h r hr).2.2.1] at this
      exact this
    rw [List.map_congr_left e, List.map_id]

/-! Filled tables. -/
def cellT (t : Tab) (a b : Nat) : Txt := (t.getD a []).getD b []
theorem getD_setT (t : Tab) (i a : Nat) (r : Row) (hi : i < t.length) : (t.set i r).getD a [] = if a = i then r else t.getD a [] := by
  rw [List.getD_eq_getElem?_getD, List.getElem?_set]
  by_cases h : i = a
  · subst h; simp [hi]
  · have h' : ¬ a = i := fun e => h e.symm
    simp [h, h']
theorem getD_setR (r : Row) (k b : Nat) (s : Txt) (hk : k < r.length) : (r.set k s).getD b [] = if b = k then s else r.getD b [] := by
  rw [List.getD_eq_getElem?_getD, List.getElem?_set]
  by_cases h : k = b
  · subst h; simp [hk]
  · have h' : ¬ b = k := fun e => h e.symm
    simp [h, h']
theorem cell_step {n m : Nat} {t : Tab} (h : Shp n m t) (i k : Nat) (hi : i < n) (hk : k < m) (a b : Nat) : cellT (step i k t) a b = if a = i ∧ b = k ∧ cellT t i k = [] then cellT t (i - 1) k else cellT t a b := by
  obtain ⟨hi', g1, g2⟩ := h.get i hi
  unfold step
  by_cases h0 : cellT t i k = []
  · rw [if_pos (show (t.getD i []).getD k [] = [] from h0)]
    unfold cellT at h0 ⊢
    rw [getD_setT _ _ _ _ hi']
    by_cases ha : a = i
    · rw [if_pos ha, getD_setR _ _ _ _ (by rw [g2]; omega)]
      by_cases hb : b = k
      · rw [if_pos hb, if_pos ⟨ha, hb, h0⟩]
      · rw [if_neg hb, if_neg (fun e => hb e.2.1), ha]
    · rw [if_neg ha, if_neg (fun e => ha e.1)]
  · rw [if_neg (show ¬ (t.getD i []).getD k [] = [] from h0), if_neg (fun e => h0 e.2.2)]
theorem cell_rowN {n m : Nat} (i : Nat) (hi1 : 1 ≤ i) (hi : i < n) : ∀ (q k : Nat) (t : Tab), Shp n m t → k + q = m → ∀ a b, cellT (rowN i q k t) a b = if a = i ∧ k ≤ b ∧ b < m ∧ cellT t i b = [] then cellT t (i - 1) b else cellT t a b
  | 0, k, t, h, hkq, a, b => by rw [rowN, if_neg (by omega)]
  | q + 1, k, t, h, hkq, a, b => by
    have ih := cell_rowN i hi1 hi q (k + 1) (step i k t) (h.step i k hi) (by omega) a b
    rw [rowN, ih]
    have s1 := cell_step h i k hi (by omega)
    have s2 : cellT (step i k t) (i - 1) b = cellT t (i - 1) b := by rw [s1, if_neg (by omega)]
    rw [s2, s1 i b, s1 a b]
    by_cases ha : a = i
    · subst ha
      by_cases hb : b = k
      · subst hb
        have e0 : ¬ (b + 1 ≤ b) := by omega
        simp only [true_and, e0, false_and, if_false, Nat.le_refl, show b < m by omega]
      · simp only [true_and, hb, false_and, if_false]
        by_cases hkb : k + 1 ≤ b
        · simp only [hkb, show k ≤ b by omega, true_and]
        · have : ¬ k ≤ b := by omega
          simp only [hkb, this, false_and, if_false]
    · simp only [ha, false_and, if_false]
def Gd (m i : Nat) (t : Tab) : Prop := ∀ a b, 1 ≤ a → a < i → b < m → cellT t a b = [] → cellT t (a - 1) b = []
theorem allN_gd {n m : Nat} : ∀ (q i : Nat) (t : Tab), 1 ≤ i → i + q ≤ n → Shp n m t → Gd m i t → Gd m (i + q) (allN q i t)
  | 0, _, _, _, _, _, h => h
  | q + 1, i, t, hi1, hq, hs, hg => by
    obtain ⟨hi', g1, g2⟩ := hs.get i (by omega)
    rw [allN, show i + (q + 1) = i + 1 + q by omega]
    rw [g2, g1]
    have hs2 := rowN_shp (n := n) (m := m) i (by omega) m 0 t hs
    refine allN_gd q (i + 1) _ (by omega) (by omega) hs2 fun a b ha hai hb h0 => ?_
    have c := cell_rowN (n := n) i hi1 (by omega) m 0 t hs (by omega)
    rw [c] at h0 ⊢
    by_cases e : a = i
    · subst e
      rw [if_neg (by omega)]
      by_cases h1 : cellT t a b = []
      · rw [if_pos ⟨rfl, Nat.zero_le _, hb, h1⟩] at h0; exact h0
      · rw [if_neg (fun e => h1 e.2.2.2)] at h0; exact absurd h0 h1
    · rw [if_neg (fun x => e x.1)] at h0
      rw [if_neg (by omega)]
      exact hg a b ha (by omega) hb h0
theorem set_getD (r : Row) (k : Nat) : r.set k (r.getD k []) = r := by
  apply List.ext_getElem?
  intro j
  rw [List.getElem?_set]
  by_cases h : k = j
  · subst h
    by_cases hk : k < r.length
    · simp [hk]
    · rw [if_pos rfl, if_neg hk, List.getElem?_eq_none (by omega)]
  · rw [if_neg h]
theorem set_getDT (t : Tab) (k : Nat) : t.set k (t.getD k []) = t := by
  apply List.ext_getElem?
  intro j
  rw [List.getElem?_set]
  by_cases h : k = j
  · subst h
    by_cases hk : k < t.length
    · simp [hk]
    · rw [if_pos rfl, if_neg hk, List.getElem?_eq_none (by omega)]
  · rw [if_neg h]
theorem step_id {n m : Nat} {t : Tab} (hg : Gd m n t) (i k : Nat) (hi1 : 1 ≤ i) (hi : i < n) (hk : k < m) : step i k t = t := by
  unfold step
  by_cases h0 : cellT t i k = []
  · have := hg i k hi1 hi hk h0
    rw [if_pos (show (t.getD i []).getD k [] = [] from h0), show (t.getD (i - 1) []).getD k [] = [] from this, ← show (t.getD i []).getD k [] = [] from h0, set_getD, set_getDT]
  · rw [if_neg (show ¬ (t.getD i []).getD k [] = [] from h0)]
theorem rowN_id {n m : Nat} {t : Tab} (hg : Gd m n t) (i : Nat) (hi1 : 1 ≤ i) (hi : i < n) : ∀ q k, k + q ≤ m → rowN i q k t = t
  | 0, _, _ => rfl
  | q + 1, k, h => by rw [rowN, step_id hg i k hi1 hi (by omega)]; exact rowN_id hg i hi1 hi q (k + 1) (by omega)
theorem allN_id {n m : Nat} {t : Tab} (hs : Shp n m t) (hg : Gd m n t) : ∀ q i, 1 ≤ i → i + q ≤ n → allN q i t = t
  | 0, _, _, _ => rfl
  | q + 1, i, hi1, hq => by
    obtain ⟨_, g1, g2⟩ := hs.get i (by omega)
    rw [allN, g2, g1, rowN_id hg i hi1 (by omega) m 0 (by omega)]
    exact allN_id hs hg q (i + 1) (by omega) (by omega)
/-- All texts of a table are such that. -/
def AllC (t : Tab) : Prop := ∀ r ∈ t, ∀ s ∈ r, chkS s = 0
theorem AllC.cell {t : Tab} (h : AllC t) (a b : Nat) : chkS (cellT t a b) = 0 := by
  unfold cellT
  by_cases ha : a < t.length
  · by_cases hb : b < t[a].length
    · have e : (t.getD a []).getD b [] = t[a][b] := by simp [ha, hb]
      rw [e]; exact h _ (List.getElem_mem ha) _ (List.getElem_mem hb)
    · have e : (t.getD a []).getD b [] = [] := by simp [ha]; rw [List.getElem?_eq_none (by omega)]; rfl
      rw [e]; rfl
  · have e : (t.getD a []).getD b [] = [] := by simp [show t[a]? = none from List.getElem?_eq_none (by omega)]
    rw [e]; rfl
theorem AllC.step {t : Tab} (h : AllC t) (i k : Nat) : AllC (step i k t) := by
  unfold Av.step
  split
  · intro r hr s hs
    rcases List.mem_or_eq_of_mem_set hr with hr | rfl
    · exact h r hr s hs
    · rcases List.mem_or_eq_of_mem_set hs with hs | rfl
      · by_cases hi : i < t.length
        · have e : t.getD i [] = t[i] := by simp [hi]
          rw [e] at hs; exact h _ (List.getElem_mem hi) s hs
        · have e : t.getD i [] = [] := by simp [show t[i]? = none from List.getElem?_eq_none (by omega)]
          rw [e] at hs; cases hs
      · exact h.cell (i - 1) k
  · exact h
theorem rowN_all (i : Nat) : ∀ (q k : Nat) (t : Tab), AllC t → AllC (rowN i q k t)
  | 0, _, _, h => h
  | q + 1, k, t, h => rowN_all i q (k + 1) _ (h.step i k)
theorem allN_all : ∀ (q i : Nat) (t : Tab), AllC t → AllC (allN q i t)
  | 0, _, _, h => h
  | q + 1, i, t, h => allN_all q (i + 1) _ (rowN_all i _ 0 t h)
theorem fill_fill {t : Tab} (h : chk t = 0) : chk (fillF t) = 0 ∧ fillF (fillF t) = fillF t := by
  have la := chk_len h
  have hcols := chk_cols h
  have hrows := chk_row h
  have e : fillF t = allN (t.length - 1) 1 t := by unfold fillF; rw [if_neg (by simp [h])]
  rcases Nat.eq_zero_or_pos t.length with hz | hz
  · have : t = [] := List.eq_nil_of_length_eq_zero hz
    subst this; exact ⟨rfl, rfl⟩
  · have hs : Shp t.length (cols t) t := ⟨rfl, fun r hr => (hrows r hr).2.2.1⟩
    have hs2 := allN_shp (t.length - 1) 1 t (by omega) hs
    have hg := allN_gd (n := t.length) (m := cols t) (t.length - 1) 1 t (Nat.le_refl _) (by omega) hs (fun a b ha hai => by omega)
    rw [show 1 + (t.length - 1) = t.length by omega] at hg
    have hc := allN_all (t.length - 1) 1 t (fun r hr s hs => chkR_mem (hrows r hr).2.2.2 s hs)
    have hc1 : 1 ≤ cols t := by have := hrows t[0] (List.getElem_mem hz); omega
    rw [e]
    generalize allN (t.length - 1) 1 t = F at hs2 hg hc
    have c0 : chk F = 0 := chk_of (n0 := cols t) (by rw [hs2.1]; exact la) fun r hr => ⟨by rw [hs2.2 r hr]; exact hc1, by rw [hs2.2 r hr]; exact hcols, hs2.2 r hr, fun s hq => hc r hr s hq⟩
    refine ⟨c0, ?_⟩
    unfold fillF
    rw [if_neg (by simp [c0]), hs2.1]
    exact allN_id hs2 hg (t.length - 1) 1 (Nat.le_refl _) (by omega)

/-! Distinct texts. -/
theorem law08_distinct_spec (l : Row) (hl : l.length ≤ 1000) (n : Nat) (hn : 1002 ≤ n) : (O0 n).Φ i_law08_distinct [aR l] = some (aB (decide l.Nodup)) := by
  obtain ⟨m, rfl⟩ := nat_succ (n := n) (k := 0) (by omega)
  rw [law08_distinct_run, law08_distinct]
  classical
  have key := iter_nat (F := fun (x : List (List D) × Int × Unit) (rec : (List (List D) × Int × Unit) → Option A) => law08_distinct_l0 (O0 m).Φ m (fun l2 i3 => rec (l2, i3, ())) x.1 x.2.1) l.length (fun i => (rD l, (i : Int), ())) (fun i => aB (decide (∀ a, i ≤ a → (h : a < l.length) → ∀ b, (hb : b < a) → l[a] ≠ l[b]))) (fun i rec hi hrec => by
    by_cases hlt : i < l.length
    · have hw := wrap_i (i + 1) (by omega) (by omega)
      have hlt' : (i : Int) < l.length := by omega
      have hr := hrec hlt
      simp only [law08_distinct_l0, xite_decide, length_rD, hlt', if_true]
      have e0 : (∀ a, i ≤ a → (h : a < l.length) → ∀ b, (hb : b < a) → l[a] ≠ l[b]) ↔ (∀ b, 0 ≤ b → (hb : b < i) → l[i] ≠ l[b]) ∧ ∀ a, i + 1 ≤ a → (h : a < l.length) → ∀ b, (hb : b < a) → l[a] ≠ l[b] := by
        constructor
        · intro h; exact ⟨fun b _ hb => h i (Nat.le_refl _) hlt b hb, fun a ha hal b hb => h a (by omega) hal b hb⟩
        · intro h a ha hal b hb
          rcases Nat.eq_or_lt_of_le ha with e | e
          · subst e; exact h.1 b (Nat.zero_le _) hb
          · exact h.2 a e hal b hb
      rw [decide_eq_decide.2 e0]
      refine iter_nat i (fun k => (rD l, (i : Int), (k : Int), ())) (fun k => aB (decide ((∀ b, k ≤ b → (hb : b < i) → l[i] ≠ l[b]) ∧ ∀ a, i + 1 ≤ a → (h : a < l.length) → ∀ b, (hb : b < a) → l[a] ≠ l[b]))) (fun k rec2 hk hrec2 => ?_) m 0 (by omega) (by omega)
      by_cases hkl : k < i
      · have hwk := wrap_i (k + 1) (by omega) (by omega)
        have hkl' : (k : Int) < (i : Int) := by omega
        have hr2 := hrec2 hkl
        simp only [law08_distinct_l1, xite_decide, xif_decide, hkl', if_true, xElem_rD l i hlt, xElem_rD l k (by omega), Option.bind_some, List.length_singleton, Nat.le_refl, getD_one, xDS_s, hwk]
        by_cases he : l[i] = l[k]
        · have : ¬ ((∀ b, k ≤ b → (hb : b < i) → l[i] ≠ l[b]) ∧ ∀ a, i + 1 ≤ a → (h : a < l.length) → ∀ b, (hb : b < a) → l[a] ≠ l[b]) := fun h => h.1 k (Nat.le_refl _) hkl he
          rw [decide_eq_false this]
          simp only [he, if_true]
        · simp only [he, if_false]
          refine Eq.trans hr2 (congrArg (fun q => some (aB q)) (decide_eq_decide.2 ?_))
          constructor
          · intro h
            refine ⟨fun b hb hbi => ?_, h.2⟩
            rcases Nat.eq_or_lt_of_le hb with e | e
            · subst e; exact he
            · exact h.1 b e hbi
          · intro h; exact ⟨fun b hb hbi => h.1 b (by omega) hbi, h.2⟩
      · have hkl' : ¬ (k : Int) < (i : Int) := by omega
        simp only [law08_distinct_l1, xite_decide, hkl', if_false, hw]
        refine Eq.trans hr (congrArg (fun q => some (aB q)) (decide_eq_decide.2 ?_))
        constructor
        · intro h; exact ⟨fun b hb hbi => by omega, h⟩
        · intro h; exact h.2
    · have hlt' : ¬ (i : Int) < l.length := by omega
      have : (∀ a, i ≤ a → (h : a < l.length) → ∀ b, (hb : b < a) → l[a] ≠ l[b]) := fun a ha hal => by omega
      rw [decide_eq_true this]
      simp only [law08_distinct_l0, xite_decide, length_rD, hlt', if_false]) m 0 (by omega) (by omega)
  refine Eq.trans key (congrArg (fun q => some (aB q)) (decide_eq_decide.2 ?_))
  unfold List.Nodup
  rw [List.pairwise_iff_getElem]
  constructor
  · intro h a b ha hb hab e; exact h b (Nat.zero_le _) hb a hab e.symm
  · intro h a _ ha b hb e; exact h b a (by omega) ha hb e.symm
end Go.Av

set_option linter.unusedSimpArgs false
namespace Go.Av

def pzip (k : Txt) (ns vs : Row) : Tab := List.zipWith (fun n v => [k, n, v]) ns vs
def unzT (ns : Row) (R : List (Txt × Row)) : Tab := R.flatMap fun p => pzip p.1 ns p.2
theorem pzip_c0 (k : Txt) : ∀ (ns vs : Row), vs.length = ns.length → (pzip k ns vs).map c0 = List.replicate ns.length k
  | [], [], _ => rfl
  | n :: ns, v :: vs, h => by
    have ih := pzip_c0 k ns vs (by simpa using h)
    show c0 [k, n, v] :: (pzip k ns vs).map c0 = _
    rw [ih]; rfl
theorem pzip_c1 (k : Txt) : ∀ (ns vs : Row), vs.length = ns.length → (pzip k ns vs).map c1 = ns
  | [], [], _ => rfl
  | n :: ns, v :: vs, h => by
    have ih := pzip_c1 k ns vs (by simpa using h)
    show c1 [k, n, v] :: (pzip k ns vs).map c1 = _
    rw [ih]; rfl
theorem pzip_mem (k : Txt) : ∀ (ns vs : Row) (r : Row), r ∈ pzip k ns vs → ∃ n v, r = [k, n, v] ∧ n ∈ ns ∧ v ∈ vs
  | [], _, r, h => by simp [pzip] at h
  | _ :: _, [], r, h => by simp [pzip] at h
  | n :: ns, v :: vs, r, h => by
    rcases List.mem_cons.1 (show r ∈ [k, n, v] :: pzip k ns vs from h) with rfl | h
    · exact ⟨n, v, rfl, List.mem_cons_self .., List.mem_cons_self ..⟩
    · obtain ⟨a, b, h1, h2, h3⟩ := pzip_mem k ns vs r h
      exact ⟨a, b, h1, List.mem_cons_of_mem _ h2, List.mem_cons_of_mem _ h3⟩
theorem pzip_pw (k : Txt) : ∀ (ns vs : Row), ns.Nodup → (pzip k ns vs).Pairwise fun q r => same2 q r = false
  | [], _, _ => by simp [pzip]
  | _ :: _, [], _ => by simp [pzip]
  | n :: ns, v :: vs, h => by
    rw [List.nodup_cons] at h
    show ([k, n, v] :: pzip k ns vs).Pairwise _
    rw [List.pairwise_cons]
    refine ⟨fun r hr => ?_, pzip_pw k ns vs h.2⟩
    obtain ⟨a, b, rfl, h2, _⟩ := pzip_mem k ns vs r hr
    have : ¬ n = a := fun e => h.1 (by rw [e]; exact h2)
    simp [same2, c0, c1, this]
theorem pzip_vals (k : Txt) : ∀ (ns vs : Row) (rest : Tab), ns.Nodup → vs.length = ns.length → ns.map (valF (pzip k ns vs ++ rest) k) = vs
  | [], [], _, _, _ => rfl
  | n :: ns, v :: vs, rest, h, hl => by
    rw [List.nodup_cons] at h
    have ih := pzip_vals k ns vs rest h.2 (by simpa using hl)
    show (n :: ns).map (valF ([k, n, v] :: (pzip k ns vs ++ rest)) k) = _
    rw [List.map_cons]
    congr 1
    · simp [valF, c0, c1, c2]
    · rw [← ih]
      apply List.map_congr_left
      intro s hs
      have : ¬ n = s := fun e => h.1 (by rw [e]; exact hs)
      rw [valF, if_neg (fun e => this e.2)]
      rw [ih]
theorem pzip_other (k k' s : Txt) (h : k' ≠ k) : ∀ (ns vs : Row) (rest : Tab), valF (pzip k' ns vs ++ rest) k s = valF rest k s
  | [], _, _ => by simp [pzip]
  | _ :: _, [], _ => by simp [pzip]
  | n :: ns, v :: vs, rest => by
    show valF ([k', n, v] :: (pzip k' ns vs ++ rest)) k s = _
    rw [valF, if_neg (fun e => h e.1)]
    exact pzip_other k k' s h ns vs rest

theorem foldl_sub : ∀ (l s : Row), (∀ a ∈ l, a ∈ s) → l.foldl addF s = s
  | [], _, _ => rfl
  | x :: l, s, h => by
    rw [List.foldl_cons, show addF s x = s from if_pos (h x (List.mem_cons_self ..))]
    exact foldl_sub l s fun a ha => h a (List.mem_cons_of_mem _ ha)
theorem foldl_nodup : ∀ (l s : Row), (s ++ l).Nodup → l.foldl addF s = s ++ l
  | [], s, _ => by simp
  | x :: l, s, h => by
    have hx : x ∉ s := fun hx => by
      rw [List.nodup_append] at h
      exact h.2.2 x hx x (List.mem_cons_self ..) rfl
    rw [List.foldl_cons, show addF s x = s ++ [x] from if_neg hx, foldl_nodup l (s ++ [x]) (by simpa using h)]
    simp
theorem keys_unz (ns : Row) (hns : 1 ≤ ns.length) : ∀ (R : List (Txt × Row)) (s : Row), (∀ p ∈ R, p.2.length = ns.length) → ((unzT ns R).map c0).foldl addF s = (R.map (·.1)).foldl addF s
  | [], s, _ => rfl
  | p :: R, s, h => by
    have e : (unzT ns (p :: R)).map c0 = List.replicate ns.length p.1 ++ (unzT ns R).map c0 := by
      unfold unzT
      rw [List.flatMap_cons, List.map_append, pzip_c0 _ _ _ (h p (List.mem_cons_self ..))]
    obtain ⟨m, hm⟩ : ∃ m, ns.length = m + 1 := ⟨ns.length - 1, by omega⟩
    rw [e, List.foldl_append, hm, List.replicate_succ, List.foldl_cons, foldl_sub (List.replicate m p.1) (addF s p.1) (fun a ha => by rw [(List.mem_replicate.1 ha).2]; exact addF_mem s p.1), List.map_cons, List.foldl_cons]
    exact keys_unz ns hns R _ fun q hq => h q (List.mem_cons_of_mem _ hq)
theorem names_unz (ns : Row) (s : Row) (hs : ∀ a ∈ ns, a ∈ s) : ∀ (R : List (Txt × Row)), (∀ p ∈ R, p.2.length = ns.length) → ((unzT ns R).map c1).foldl addF s = s := fun R h => by
  refine foldl_sub _ _ fun a ha => ?_
  obtain ⟨r, hr, rfl⟩ := List.mem_map.1 ha
  obtain ⟨p, hp, hr⟩ := List.mem_flatMap.1 hr
  obtain ⟨n, v, rfl, hn, _⟩ := pzip_mem _ _ _ r hr
  exact hs _ hn
theorem dup2_false : ∀ (l p : Tab), (p ++ l).Pairwise (fun q r => same2 q r = false) → dup2 p l = false
  | [], _, _ => rfl
  | r :: l, p, h => by
    rw [dup2]
    have h1 : p.any (fun q => same2 q r) = false := by
      rw [List.any_eq_false]
      intro q hq
      rw [List.pairwise_append] at h
      rw [h.2.2 q hq r (List.mem_cons_self ..)]; simp
    rw [h1, Bool.false_or]
    exact dup2_false l (p ++ [r]) (by simpa using h)
theorem vals_unz (ns : Row) (hns : ns.Nodup) : ∀ (R : List (Txt × Row)), (R.map (·.1)).Nodup → (∀ p ∈ R, p.2.length = ns.length) → ∀ p ∈ R, ns.map (valF (unzT ns R) p.1) = p.2
  | [], _, _, p, hp => by cases hp
  | q :: R, hR, hl, p, hp => by
    rw [List.map_cons, List.nodup_cons] at hR
    have e : unzT ns (q :: R) = pzip q.1 ns q.2 ++ unzT ns R := rfl
    rw [e]
    rcases List.mem_cons.1 hp with rfl | hp
    · exact pzip_vals p.1 ns p.2 _ hns (hl p (List.mem_cons_self ..))
    · have hne : q.1 ≠ p.1 := fun e => hR.1 (by rw [e]; exact List.mem_map_of_mem hp)
      have ih := vals_unz ns hns R hR.2 (fun x hx => hl x (List.mem_cons_of_mem _ hx)) p hp
      rw [← ih]
      rw [ih]
      refine Eq.trans ?_ ih
      apply List.map_congr_left
      intro s _
      exact pzip_other p.1 q.1 s hne ns q.2 _

theorem unpR_zip (ns vs : Row) (k : Txt) (h : vs.length = ns.length) : unpR ([] :: ns) 1 (k :: vs) ns.length = pzip k ns vs := by
  unfold unpR pzip
  apply List.ext_getElem?
  intro j
  rw [List.getElem?_map, List.getElem?_zipWith]
  rcases Nat.lt_or_ge j ns.length with hj | hj
  · have hj2 : j < vs.length := by omega
    rw [List.getElem?_range hj, List.getElem?_eq_getElem hj, List.getElem?_eq_getElem hj2]
    have e1 : ([] :: ns : Row).getD (1 + j) [] = ns[j] := by rw [Nat.add_comm]; simp [hj]
    have e2 : (k :: vs : Row).getD (1 + j) [] = vs[j] := by rw [Nat.add_comm]; simp [hj2]
    simp only [Option.map_some, e1, e2]
    rfl
  · rw [List.getElem?_eq_none (by simpa using hj), List.getElem?_eq_none hj]; rfl

theorem piv_unp {t : Tab} (h : chk t = 0) (h1 : 2 ≤ t.length) (h2 : 2 ≤ cols t) (he : c0 t[0] = []) (hn : t[0].Nodup) (hk : (colF t 0).Nodup) (h8 : (t.length - 1) * (cols t - 1) ≤ 8) : pivF (unpT t 1) = (t, 0) := by
  have la := chk_len h
  have hrows := chk_row h
  have hcols := chk_cols h
  obtain ⟨hd, rs, rfl⟩ : ∃ hd rs, t = hd :: rs := by
    cases t with
    | nil => simp at h1
    | cons a b => exact ⟨a, b, rfl⟩
  simp only [List.getElem_cons_zero] at he hn
  have hc : cols (hd :: rs) = hd.length := rfl
  rw [hc] at h2 h8 hcols hrows
  obtain ⟨ns, rfl⟩ : ∃ ns, hd = [] :: ns := by
    cases hd with
    | nil => simp at h2
    | cons a b => refine ⟨b, ?_⟩; simp [c0] at he; rw [he]
  rw [List.nodup_cons] at hn
  -- the rows, apart
  obtain ⟨R, hR, hRl⟩ : ∃ R : List (Txt × Row), rs = R.map (fun p => p.1 :: p.2) ∧ ∀ p ∈ R, p.2.length = ns.length := by
    have : ∀ rs : Tab, (∀ r ∈ rs, r.length = ns.length + 1) → ∃ R : List (Txt × Row), rs = R.map (fun p => p.1 :: p.2) ∧ ∀ p ∈ R, p.2.length = ns.length := fun rs => by
      induction rs with
      | nil => intro _; exact ⟨[], rfl, by simp⟩
      | cons r rs ih =>
        intro hr
        obtain ⟨R, e1, e2⟩ := ih fun q hq => hr q (List.mem_cons_of_mem _ hq)
        have hrl := hr r (List.mem_cons_self ..)
        cases r with
        | nil => simp at hrl
        | cons k vs =>
          refine ⟨(k, vs) :: R, by rw [e1]; rfl, fun p hp => ?_⟩
          rcases List.mem_cons.1 hp with rfl | hp
          · simpa using hrl
          · exact e2 p hp
    exact this rs fun r hr => by have := (hrows r (List.mem_cons_of_mem _ hr)).2.2.1; simpa using this
  subst hR
  have hkR : (R.map (·.1)).Nodup := by
    have e : colF (([] :: ns) :: R.map fun p => p.1 :: p.2) 0 = [] :: R.map (·.1) := by
      unfold colF; rw [List.map_cons, List.map_map]; rfl
    rw [e, List.nodup_cons] at hk
    exact hk.2
  have hU : unpT (([] :: ns) :: R.map fun p => p.1 :: p.2) 1 = unzT ns R := by
    unfold unpT unzT
    rw [hc, List.drop_succ_cons, List.drop_zero]
    show (R.map fun p => p.1 :: p.2).flatMap (fun r => unpR ([] :: ns) 1 r (([] :: ns : Row).length - 1)) = _
    rw [List.flatMap_map]
    have : ∀ p ∈ R, unpR ([] :: ns) 1 (p.1 :: p.2) (([] :: ns : Row).length - 1) = pzip p.1 ns p.2 := fun p hp => unpR_zip ns p.2 p.1 (hRl p hp)
    rw [List.flatMap_def, List.flatMap_def, List.map_congr_left this]
  have hlen := unpT_len (([] :: ns) :: R.map fun p => p.1 :: p.2) 1
  rw [hU, hc] at hlen
  rw [hU]
  simp only [List.length_cons, List.length_map, Nat.add_sub_cancel] at hlen h8 h1 h2
  have hR1 : 1 ≤ R.length := by omega
  have hn1 : 1 ≤ ns.length := by omega
  have hrow : ∀ r ∈ unzT ns R, r.length = 3 ∧ ∀ s ∈ r, chkS s = 0 := fun r hr => by
    obtain ⟨p, hp, hr⟩ := List.mem_flatMap.1 hr
    obtain ⟨n, v, rfl, hnn, hv⟩ := pzip_mem _ _ _ r hr
    have hp' : p.1 :: p.2 ∈ (([] :: ns) :: R.map fun p => p.1 :: p.2 : Tab) := List.mem_cons_of_mem _ (List.mem_map.2 ⟨p, hp, rfl⟩)
    have hc1 := (hrows _ hp').2.2.2
    have hc0 := (hrows ([] :: ns) (List.mem_cons_self ..)).2.2.2
    refine ⟨rfl, fun s hs => ?_⟩
    simp only [List.mem_cons, List.not_mem_nil, or_false] at hs
    rcases hs with rfl | rfl | rfl
    · exact chkR_mem hc1 _ (List.mem_cons_self ..)
    · exact chkR_mem hc0 _ (List.mem_cons_of_mem _ hnn)
    · exact chkR_mem hc1 _ (List.mem_cons_of_mem _ hv)
  have hc0 : chk (unzT ns R) = 0 := chk_of (n0 := 3) (by omega) fun r hr => by
    obtain ⟨a, b⟩ := hrow r hr
    exact ⟨by omega, by omega, a, b⟩
  have hpos : 0 < (unzT ns R).length := by rw [hlen]; exact Nat.mul_pos hR1 hn1
  have hcl : cols (unzT ns R) = 3 := by rw [cols_get _ hpos]; exact (hrow _ (List.getElem_mem hpos)).1
  have hd : dup2 [] (unzT ns R) = false := by
    apply dup2_false
    rw [List.nil_append]
    unfold unzT
    rw [List.pairwise_flatMap]
    refine ⟨fun p hp => pzip_pw _ _ _ hn.2, ?_⟩
    have := hkR
    unfold List.Nodup at this
    rw [List.pairwise_map] at this
    refine this.imp fun {a b} hab x hx y hy => ?_
    obtain ⟨n, v, rfl, _, _⟩ := pzip_mem _ _ _ x hx
    obtain ⟨n', v', rfl, _, _⟩ := pzip_mem _ _ _ y hy
    simp [same2, c0, c1, hab]
  have hK : keysF (unzT ns R) = R.map (·.1) := by
    unfold keysF dst
    rw [keys_unz ns hn1 R [] hRl, foldl_nodup _ _ (by simpa using hkR), List.nil_append]
  have hN : namesF (unzT ns R) = ns := by
    obtain ⟨p, R', rfl⟩ : ∃ p R', R = p :: R' := by
      cases R with
      | nil => simp at hR1
      | cons a b => exact ⟨a, b, rfl⟩
    unfold namesF dst
    have e : (unzT ns (p :: R')).map c1 = ns ++ (unzT ns R').map c1 := by
      unfold unzT
      rw [List.flatMap_cons, List.map_append, pzip_c1 _ _ _ (hRl p (List.mem_cons_self ..))]
    rw [e, List.foldl_append, foldl_nodup ns [] (by simpa using hn.2), List.nil_append]
    exact names_unz ns ns (fun a h => h) R' fun q hq => hRl q (List.mem_cons_of_mem _ hq)
  have hz : ¬ (unzT ns R).length = 0 := by omega
  have hs : ¬ (8 ≤ R.length ∨ 8 ≤ ns.length) := by
    have := la
    simp only [List.length_cons, List.length_map] at this hcols
    omega
  unfold pivF pivT
  simp only [hc0, ne_eq, not_true, if_false, hz, hcl, hd, Bool.false_eq_true, hK, hN, List.length_map, hs]
  congr 2
  rw [List.map_map]
  apply List.map_congr_left
  intro p hp
  show p.1 :: ns.map (valF (unzT ns R) p.1) = p.1 :: p.2
  rw [vals_unz ns hn.2 R hkR hRl p hp]

theorem tablesBack_spec (t : Tab) (n : Nat) (hn : 1300 ≤ n) : (O0 n).Φ i_law08_TablesBack [aT t] = some (aB true) := by
  obtain ⟨m, rfl⟩ := nat_succ (n := n) (k := 0) (by omega)
  rw [law08_TablesBack_run]
  have e0 := awake_spec m (by omega)
  simp only [law08_TablesBack, small_spec t m (by omega), Option.bind_some, xAD_d, xDB_v, xite_not]
  cases hsm : smallT t
  · simp only [xite_false, e0, Option.bind_some, xAD_d, xDB_v]
  have hsm2 : t.length ≤ 1000 ∧ ∀ r ∈ t, r.length ≤ 1000 := by
    unfold smallT at hsm
    simp only [Bool.and_eq_true, decide_eq_true_eq, List.all_eq_true] at hsm
    refine ⟨by omega, fun r hr => ?_⟩
    have := hsm.2 r hr
    unfold smallR at this
    simp only [Bool.and_eq_true, decide_eq_true_eq] at this
    omega
  simp only [xite_true, tables_Check_spec t m (by omega), Option.bind_some, xAD_d, xDI_v, xite_decide]
  by_cases h0 : chk t = 0
  · have la := chk_len h0
    have hrows := chk_row h0
    have hcols := chk_cols h0
    obtain ⟨f1, f2⟩ := fill_fill h0
    have tr1 := tables_Transpose_spec t m (by omega)
    have tr2 := tables_Transpose_spec (trF t) m (by omega)
    rw [tr_tr h0] at tr2
    have sm1 := ref08_Same_spec t t hsm2.1 hsm2.2 m (by omega)
    have ck1 := tables_Check_spec (trF t) m (by omega)
    rw [(trF_ok h0).1] at ck1
    have fl1 := tables_Fill_spec t m (by omega)
    have fl2 := tables_Fill_spec (fillF t) m (by omega)
    rw [f2] at fl2
    have sm2 := ref08_Same_spec (fillF t) (fillF t) (fillF_shp t).1 (fillF_shp t).2 m (by omega)
    have ck2 := tables_Check_spec (fillF t) m (by omega)
    rw [f1] at ck2
    have hdd : ∀ l : Tab, decide (l = l) = true := fun _ => by simp
    simp only [h0, if_true, tr1, tr2, sm1, ck1, fl1, fl2, sm2, ck2, Option.bind_some, xAD_d, xDL_sl, xDB_v, xDI_v, decide_true, xite_true, length_tD, trF_len h0]
    by_cases p1 : (t.length : Int) < 2
    · simp only [p1, if_true, e0, Option.bind_some, xAD_d, xDB_v]
    by_cases p2 : (cols t : Int) < 2
    · simp only [p1, p2, if_true, if_false, e0, Option.bind_some, xAD_d, xDB_v]
    have hpos : 0 < t.length := by omega
    have h0l := (hrows _ (List.getElem_mem hpos)).2.2.1
    have hx0 := xElem_rD0 t[0] (by omega)
    simp only [p1, p2, if_false, xElem_tD0 t hpos, Option.bind_some, List.length_singleton, Nat.le_refl, decide_true, xif_tt, getD_one, xDL_sl, hx0, xDS_s]
    by_cases p3 : c0 t[0] = []
    · have d1 := law08_distinct_spec t[0] (by omega) m (by omega)
      have hpt : 0 < (trF t).length := by rw [trF_len h0]; omega
      have e1 : (trF t)[0] = colF t 0 := by simp [trF_range h0]
      have d2 := law08_distinct_spec (colF t 0) (by simp [colF]; omega) m (by omega)
      simp only [p3, if_true, d1, xElem_tD0 (trF t) hpt, e1, d2, Option.bind_some, List.length_singleton, Nat.le_refl, decide_true, xif_tt, getD_one, xDL_sl, xAD_d, xDB_v, xite_decide]
      by_cases p4 : t[0].Nodup
      · by_cases p5 : (colF t 0).Nodup
        · have hu := tables_Unpivot_spec t 1 (by omega) m (by omega)
          simp only [p4, p5, if_true, hu, Option.bind_some, xtup_tup, List.getElem?_cons_zero, List.getElem?_cons_succ, xAD_d, xDL_sl, xDI_v]
          by_cases p6 : (unpF t 1).2 = 0
          · have hprod : (t.length - 1) * (cols t - 1) ≤ 8 ∧ (unpF t 1).1 = unpT t 1 := by
              unfold unpF at p6 ⊢
              have q1 : ¬ t.length = 0 := by omega
              have q2 : ¬ ((1 : Int) < 0 ∨ (cols t : Int) ≤ 1) := by omega
              simp only [h0, ne_eq, not_true, if_false, q1, q2] at p6 ⊢
              by_cases q3 : 8 < (1 : Int) + 2 ∨ 8 < ((t.length - 1 : Nat) : Int) * ((cols t : Int) - 1)
              · rw [if_pos q3] at p6; cases p6
              · rw [if_neg q3]
                have q4 : ¬ 8 < ((t.length - 1 : Nat) : Int) * ((cols t : Int) - 1) := fun h => q3 (.inr h)
                have q5 : (cols t : Int) - 1 = ((cols t - 1 : Nat) : Int) := by omega
                rw [q5, ← Int.natCast_mul] at q4
                exact ⟨by omega, rfl⟩
            have hp := tables_Pivot_spec (unpT t 1) m (by omega)
            rw [piv_unp h0 (by omega) (by omega) p3 p4 p5 hprod.1] at hp
            simp only [p6, if_true, hprod.2, hp, sm1, e0, Option.bind_some, xtup_tup, List.getElem?_cons_zero, List.getElem?_cons_succ, xAD_d, xDL_sl, xDI_v, xDB_v, decide_true, xite_true]
          · simp only [p6, if_false, e0, Option.bind_some, xAD_d, xDB_v]
        · simp only [p4, p5, if_true, if_false, e0, Option.bind_some, xAD_d, xDB_v]
      · simp only [p4, if_false, e0, Option.bind_some, xAD_d, xDB_v]
    · simp only [p3, if_false, e0, Option.bind_some, xAD_d, xDB_v]
  · simp only [h0, if_false, e0, Option.bind_some, xAD_d, xDB_v]
end Go.Av
