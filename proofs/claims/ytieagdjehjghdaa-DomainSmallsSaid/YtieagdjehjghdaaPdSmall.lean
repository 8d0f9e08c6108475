/-
  Small values: what the count and the look at the levels give; what follows for a small value.
-/
import Derived.Test.YtieagdjehjghdaaPdVal4
set_option linter.all false
set_option linter.unusedSimpArgs false
namespace Go.Av

theorem iter_ex' {X R : Type} {F : X → (X → Option R) → Option R} (N : Nat) (I : Nat → X → Prop) (r : R)
    (h : ∀ k x rec, k ≤ N → I k x → (∀ y, k < N → I (k + 1) y → rec y = some r) → F x rec = some r) (n k : Nat) (x : X) (hk : k ≤ N) (hn : N - k < n) (hi : I k x) : iter F n x = some r := by
  obtain ⟨r', h1, rfl⟩ := iter_ex (F := F) N I (fun r' => r' = r) (fun k x rec hk hx hrec => ⟨r, h k x rec hk hx (fun y hy hiy => by obtain ⟨r', h1, rfl⟩ := hrec y hy hiy; exact h1), rfl⟩) n k x hk hn hi
  exact h1

/-- At most some levels, and short texts. -/
def GV.shal : Nat → GV → Bool
  | 0, _ => false
  | n + 1, g => decide (g.text.length ≤ 100) && g.items.attach.all fun x => GV.shal n x.1
theorem GV.shal_succ (n : Nat) (g : GV) : GV.shal (n + 1) g = (decide (g.text.length ≤ 100) && g.items.all (GV.shal n)) := by
  rw [GV.shal]
  congr 1
  simp [List.all_eq]

theorem ref01_shallow_spec (lv : Nat) : lv ≤ 1000 → ∀ g : GV, g.Ok → ∀ n, g.wt + 2 ≤ n → Φ0 n i_ref01_shallow [g.toA, aI lv] = some (aB (GV.shal lv g)) := by
  induction lv with
  | zero =>
    intro _ g hg n hn
    obtain ⟨m, rfl⟩ := nat_succ (n := n) (k := 0) (by omega)
    rw [ref01_shallow_run]
    simp [ref01_shallow, GV.shal]
  | succ lv ih =>
    intro hlv g hg n hn
    obtain ⟨m, rfl⟩ := nat_succ (n := n) (k := 0) (by omega)
    rw [GV.wt_eq] at hn
    have hl := GV.wtL_len g.items
    obtain ⟨_, hi⟩ := hg.len
    rw [ref01_shallow_run, GV.shal_succ]
    have hne : ¬ (((lv + 1 : Nat) : Int) = 0) := by omega
    simp only [ref01_shallow, xite_decide, hne, if_false]
    by_cases ht : (100 : Int) < g.text.length
    · have : ¬ g.text.length ≤ 100 := by omega
      simp [ht, this]
    · have ht' : g.text.length ≤ 100 := by omega
      simp only [ht, if_false, ht', decide_true, Bool.true_and]
      refine iter_nat g.items.length (fun k => (((lv + 1 : Nat) : Int), (), (k : Int), (g.ty, g.num, g.text, g.items.map GV.cells, ()), ())) (fun k => aB ((g.items.drop k).all (GV.shal lv))) (fun k rec hk hrec => ?_) m 0 (by omega) (by omega)
      by_cases hlt : k < g.items.length
      · have hw := wrap_i (k + 1) (by omega) (by omega)
        have hw2 : IntKind.i64.wrap (((lv + 1 : Nat) : Int) - 1) = (lv : Int) := by rw [wrap_i _ (by omega) (by omega)]; omega
        have hlt' : (k : Int) < g.items.length := by omega
        have hc := ih (by omega) _ (hg.get _ (List.getElem_mem hlt)) m (by have := (GV.wtL_get g.items k hlt).2; omega)
        have hr := hrec hlt
        simp only [ref01_shallow_l0, xElem_map 4 GV.cells g.items k hlt GV.length_cells, hw, hw2, hc, xite_decide, xite_not, xif_decide, Option.bind_some, GV.length_cells, GV.cells0, GV.cells1, GV.cells2, GV.cells3, xDI_v, xDS_s, xDL_sl, xAD_d, xDB_v, List.length_map, Nat.le_refl, if_true, hlt']
        rw [drop_some _ k hlt, List.all_cons]
        cases GV.shal lv g.items[k]
        · rfl
        · simp only [xite_true, Bool.true_and]; exact hr
      · have hlt' : ¬ (k : Int) < g.items.length := by omega
        simp only [ref01_shallow_l0, xite_decide, List.length_map, hlt', if_false]
        rw [List.drop_of_length_le (by omega)]; rfl

/-- The count, as long as it is not too much. -/
def cntL : Nat → Int → List GV → Int → Int
  | _, n, [], _ => n
  | 0, n, _ :: _, _ => n
  | d + 1, n, x :: xs, m => if n ≤ m then cntL (d + 1) (n + (1 + cntL d 0 x.items (m - n))) xs m else n
termination_by d _ l _ => (d, l.length)

theorem cntL_le : ∀ (d : Nat) (l : List GV) (n m : Int), (∀ x ∈ l, GV.shal d x = true) → 0 ≤ n → 0 ≤ m → n ≤ m + 1 + d → n ≤ cntL d n l m ∧ cntL d n l m ≤ m + 1 + d := by
  intro d
  induction d with
  | zero =>
    intro l n m hs h0 h1 h2
    cases l with
    | nil => rw [cntL]; omega
    | cons x xs => have := hs x (List.mem_cons_self ..); simp [GV.shal] at this
  | succ d ih =>
    intro l
    induction l with
    | nil => intro n m _ h0 h1 h2; rw [cntL]; omega
    | cons x xs ihl =>
      intro n m hs h0 h1 h2
      rw [cntL]
      split
      · rename_i hle
        have hx := hs x (List.mem_cons_self ..)
        rw [GV.shal_succ] at hx
        simp only [Bool.and_eq_true, List.all_eq_true] at hx
        have hsub := ih x.items 0 (m - n) hx.2 (by omega) (by omega) (by omega)
        have := ihl (n + (1 + cntL d 0 x.items (m - n))) m (fun y hy => hs y (List.mem_cons_of_mem _ hy)) (by omega) h1 (by omega)
        omega
      · omega

theorem ref01_Count_spec (d : Nat) : d ≤ 1000 → ∀ (l : List GV), (∀ x ∈ l, x.Ok) → (∀ x ∈ l, GV.shal d x = true) → l.length ≤ 9223372036854775807 → ∀ (m : Int), 0 ≤ m → m ≤ 1000 → ∀ n, GV.wtL l + 2 ≤ n →
    Φ0 n i_ref01_Count [aL l, aI m] = some (aI (cntL d 0 l m)) := by
  induction d with
  | zero =>
    intro _ l hok hs hl m h0 h1 n hn
    cases l with
    | nil =>
      obtain ⟨q, rfl⟩ := nat_succ (n := n) (k := 0) (by omega)
      rw [ref01_Count_run]
      obtain ⟨q, rfl⟩ := nat_succ (n := q) (k := 0) (by omega)
      rw [cntL]; rfl
    | cons x xs => have := hs x (List.mem_cons_self ..); simp [GV.shal] at this
  | succ d ih =>
    intro hd l hok hs hl m h0 h1 n hn
    obtain ⟨q, rfl⟩ := nat_succ (n := n) (k := 0) (by omega)
    have hlen := GV.wtL_len l
    rw [ref01_Count_run]
    simp only [ref01_Count]
    have key := iter_ex (R := A) l.length (fun k (x : List (List D) × Int × Int × Int × Unit) => ∃ c : Int, x = (l.map GV.cells, m, c, (k : Int), ()) ∧ 0 ≤ c ∧ c ≤ m + 1 + (d + 1) ∧ cntL (d + 1) c (l.drop k) m = cntL (d + 1) 0 l m) (fun r => r = aI (cntL (d + 1) 0 l m))
      (F := fun (x : List (List D) × Int × Int × Int × Unit) (rec : (List (List D) × Int × Int × Int × Unit) → Option A) => ref01_Count_l0 (Φ0 q) q (fun l3 most4 n5 i6 => rec (l3, most4, n5, i6, ())) x.1 x.2.1 x.2.2.1 x.2.2.2.1)
      (fun k x rec hk hx hrec => by
        obtain ⟨c, rfl, c0, c1, hc⟩ := hx
        by_cases hlt : k < l.length
        · have hw := wrap_i (k + 1) (by omega) (by omega)
          have hlt' : (k : Int) < l.length := by omega
          rw [drop_some l k hlt, cntL] at hc
          have hx := hs _ (List.getElem_mem hlt)
          rw [GV.shal_succ] at hx
          simp only [Bool.and_eq_true, List.all_eq_true] at hx
          by_cases hle : c ≤ m
          · rw [if_pos hle] at hc
            have hwt := (GV.wtL_get l k hlt).2
            rw [GV.wt_eq] at hwt
            have ho := hok _ (List.getElem_mem hlt)
            have hb := cntL_le d l[k].items 0 (m - c) hx.2 (by omega) (by omega) (by omega)
            have w1 : IntKind.i64.wrap (m - c) = m - c := wrap_i _ (by omega) (by omega)
            have w2 : IntKind.i64.wrap (1 + cntL d 0 l[k].items (m - c)) = 1 + cntL d 0 l[k].items (m - c) := wrap_i _ (by omega) (by omega)
            have w3 : IntKind.i64.wrap (c + (1 + cntL d 0 l[k].items (m - c))) = c + (1 + cntL d 0 l[k].items (m - c)) := wrap_i _ (by omega) (by omega)
            have hr := ih (by omega) l[k].items ho.get hx.2 ho.len.2 (m - c) (by omega) (by omega) q (by omega)
            simp only [ref01_Count_l0, xElem_map 4 GV.cells l k hlt GV.length_cells, hw, w1, hr, w2, w3, hle, xite_decide, xif_decide, Option.bind_some, GV.drop3, List.length_singleton, List.getD_cons_zero, xDI_v, xDL_sl, xAD_d, List.length_map, Nat.le_refl, if_true, hlt']
            exact hrec _ hlt ⟨_, rfl, by omega, by omega, hc⟩
          · rw [if_neg hle] at hc
            simp only [ref01_Count_l0, hle, xite_decide, List.length_map, if_true, hlt', if_false]
            exact ⟨_, rfl, by rw [hc]⟩
        · have hlt' : ¬ (k : Int) < l.length := by omega
          rw [List.drop_of_length_le (by omega), cntL] at hc
          simp only [ref01_Count_l0, xite_decide, List.length_map, hlt', if_false]
          exact ⟨_, rfl, by rw [hc]⟩) q 0 (l.map GV.cells, m, (0 : Int), (0 : Int), ()) (by omega) (by omega) ⟨0, rfl, by omega, by omega, rfl⟩
    obtain ⟨r, hr, rfl⟩ := key
    exact hr

/-- Few elements everywhere, and short texts. -/
inductive GV.Few : GV → Prop where
  | mk (g : GV) (h1 : g.text.length ≤ 100) (h2 : g.items.length ≤ 90) (h : ∀ x ∈ g.items, GV.Few x) : GV.Few g

theorem cntL_few (d : Nat) : ∀ (l : List GV) (n m : Int), (∀ x ∈ l, GV.shal d x = true) → 0 ≤ n → 0 ≤ m → m ≤ 90 → n ≤ m + 1 + d → cntL d n l m ≤ m → (l.length : Int) + n ≤ m ∧ ∀ x ∈ l, GV.Few x := by
  induction d with
  | zero =>
    intro l n m hs h0 h1 h2 h3 hc
    cases l with
    | nil => rw [cntL] at hc; exact ⟨by simp; omega, by simp⟩
    | cons x xs => have := hs x (List.mem_cons_self ..); simp [GV.shal] at this
  | succ d ih =>
    intro l
    induction l with
    | nil => intro n m hs h0 h1 h2 h3 hc; rw [cntL] at hc; exact ⟨by simp; omega, by simp⟩
    | cons x xs ihl =>
      intro n m hs h0 h1 h2 h3 hc
      rw [cntL] at hc
      have hx := hs x (List.mem_cons_self ..)
      rw [GV.shal_succ] at hx
      simp only [Bool.and_eq_true, List.all_eq_true, decide_eq_true_eq] at hx
      split at hc
      · rename_i hle
        have hsub := cntL_le d x.items 0 (m - n) hx.2 (by omega) (by omega) (by omega)
        have hxs := fun y hy => hs y (List.mem_cons_of_mem x hy)
        have hrest := cntL_le (d + 1) xs (n + (1 + cntL d 0 x.items (m - n))) m hxs (by omega) h1 (by omega)
        obtain ⟨r1, r2⟩ := ihl (n + (1 + cntL d 0 x.items (m - n))) m hxs (by omega) h1 h2 (by omega) hc
        obtain ⟨s1, s2⟩ := ih x.items 0 (m - n) hx.2 (by omega) (by omega) (by omega) (by omega) (by omega)
        refine ⟨by simp; omega, fun y hy => ?_⟩
        rcases List.mem_cons.1 hy with rfl | hy
        · exact .mk _ hx.1 (by omega) s2
        · exact r2 y hy
      · omega

theorem ref01_Small_spec (g : GV) (h : g.Ok) (n : Nat) (hn : g.wt + 5 ≤ n) : ∃ b, Φ0 n i_ref01_Small [g.toA] = some (aB b) ∧ (b = true → g.Few) := by
  obtain ⟨m, rfl⟩ := nat_succ (n := n) (k := 0) (by omega)
  have hf : ∃ v, Φ0 m i_ref01_Count [aL [g], aI 90] = some (aI v) := by
    obtain ⟨r, hr, v, rfl⟩ := ref01_Count_ex (g.wt + 1) [g] (by simp [GV.wtL]; omega) (by simp) (by simpa using h) 90 m (by omega)
    exact ⟨v, hr⟩
  rw [ref01_Small_run]
  have hr2 := ref01_shallow_spec 8 (by omega) g h m (by omega)
  obtain ⟨v, hr⟩ := hf
  have hcv : Φ0 m i_ref01_Count [A.one (C.d (D.sl [[D.v (Value.int IntKind.i64 g.ty), D.v (Value.int IntKind.i64 g.num), D.s g.text, D.sl (g.items.map GV.cells)]])), aI 90] = some (aI v) := by
    rw [← hr, ← GV.cells_eq]; rfl
  have hr2' : Φ0 m i_ref01_shallow [g.toA, aI 8] = some (aB (GV.shal 8 g)) := hr2
  simp only [ref01_Small, hcv, hr2', Option.bind_some, xAD_d, xDI_v, xDB_v, xite_decide]
  split
  · rename_i hv
    refine ⟨_, rfl, fun hb => ?_⟩
    have hs : ∀ x ∈ [g], GV.shal 8 x = true := by simpa using hb
    have hcs := ref01_Count_spec 8 (by omega) [g] (by simpa using h) hs (by simp) 90 (by omega) (by omega) m (by simp [GV.wtL]; omega)
    rw [hr] at hcs
    have hev : v = cntL 8 0 [g] 90 := by simpa using hcs
    exact (cntL_few 8 [g] 0 90 hs (by omega) (by omega) (by omega) (by omega) (by omega)).2 g (by simp)
  · exact ⟨_, rfl, fun h => by simp at h⟩
end Go.Av
