/-
  The functions on values: what they give, 4: small values; names of types; the first examples.
-/
import Derived.Test.YtieagdjehjghdaaPdVal3
set_option linter.all false
set_option linter.unusedSimpArgs false
namespace Go.Av

theorem iter_ex {X R : Type} {F : X → (X → Option R) → Option R} (N : Nat) (I : Nat → X → Prop) (Q : R → Prop)
    (h : ∀ k x rec, k ≤ N → I k x → (∀ y, k + 1 ≤ N → I (k + 1) y → ∃ r, rec y = some r ∧ Q r) → ∃ r, F x rec = some r ∧ Q r) : ∀ (n k : Nat) (x : X), k ≤ N → N - k < n → I k x → ∃ r, iter F n x = some r ∧ Q r
  | 0, k, _, _, hn, _ => absurd hn (Nat.not_lt_zero _)
  | n + 1, k, x, hk, hn, hi => h k x _ hk hi fun y hk1 hy => iter_ex N I Q h n (k + 1) y hk1 (by omega) hy

def IsI (r : A) : Prop := ∃ v : Int, r = aI v
def IsB (r : A) : Prop := ∃ v : Bool, r = aB v

theorem ref01_Count_ex : ∀ (s : Nat) (l : List GV), GV.wtL l ≤ s → l.length ≤ 9223372036854775807 → (∀ x ∈ l, x.Ok) → ∀ (most : Int) (n : Nat), s + 2 ≤ n → ∃ r, Φ0 n i_ref01_Count [aL l, aI most] = some r ∧ IsI r := by
  intro s
  induction s with
  | zero =>
    intro l hl hm hok most n hn
    have := GV.wtL_len l
    obtain ⟨m, rfl⟩ := nat_succ (n := n) (k := 0) (by omega)
    rw [ref01_Count_run]
    obtain ⟨m, rfl⟩ := nat_succ (n := m) (k := 0) (by omega)
    have : l = [] := List.eq_nil_of_length_eq_zero (by omega)
    subst this
    exact ⟨_, rfl, 0, rfl⟩
  | succ s ih =>
    intro l hl hm hok most n hn
    have := GV.wtL_len l
    obtain ⟨m, rfl⟩ := nat_succ (n := n) (k := 0) (by omega)
    rw [ref01_Count_run]
    refine iter_ex l.length (fun k x => ∃ c : Int, x = (l.map GV.cells, most, c, (k : Int), ())) IsI (fun k x rec hk hx hrec => ?_) m 0 _ (by omega) (by omega) ⟨0, rfl⟩
    obtain ⟨c, rfl⟩ := hx
    by_cases hlt : k < l.length
    · have hw := wrap_i (k + 1) (by omega) (by omega)
      have hlt' : (k : Int) < l.length := by omega
      by_cases hc : c ≤ most
      · have hx := hok _ (List.getElem_mem hlt)
        have hwt := (GV.wtL_get l k hlt).2
        rw [GV.wt_eq] at hwt
        obtain ⟨r, hr, v, rfl⟩ := ih l[k].items (by omega) hx.len.2 hx.get (IntKind.i64.wrap (most - c)) m (by omega)
        have h14 : (1 : Nat) ≤ 1 := by decide
        simp only [ref01_Count_l0, xElem_map 4 GV.cells l k hlt GV.length_cells, hw, hr, hc, xite_decide, xif_decide, Option.bind_some, GV.drop3, List.length_singleton, List.getD_cons_zero, xDI_v, xDL_sl, xAD_d, List.length_map, Nat.le_refl, if_true, hlt']
        exact hrec _ hlt ⟨_, rfl⟩
      · simp only [ref01_Count_l0, hc, xite_decide, List.length_map, if_true, hlt', if_false]
        exact ⟨_, rfl, _, rfl⟩
    · have hlt' : ¬ (k : Int) < l.length := by omega
      simp only [ref01_Count_l0, xite_decide, List.length_map, hlt', if_false]
      exact ⟨_, rfl, _, rfl⟩

theorem ref01_shallow_ex (g : GV) : g.Ok → ∀ (lv : Int) (n : Nat), g.wt + 2 ≤ n → ∃ r, Φ0 n i_ref01_shallow [g.toA, aI lv] = some r ∧ IsB r := by
  refine GV.ind (p := fun g => g.Ok → ∀ (lv : Int) (n : Nat), g.wt + 2 ≤ n → ∃ r, Φ0 n i_ref01_shallow [g.toA, aI lv] = some r ∧ IsB r) (fun g ih hok lv n hn => ?_) g
  obtain ⟨m, rfl⟩ := nat_succ (n := n) (k := 0) (by omega)
  rw [GV.wt_eq] at hn
  have hl := GV.wtL_len g.items
  obtain ⟨_, hi⟩ := hok.len
  rw [ref01_shallow_run]
  simp only [ref01_shallow, xite_decide]
  split
  · exact ⟨_, rfl, _, rfl⟩
  · split
    · exact ⟨_, rfl, _, rfl⟩
    · refine iter_ex g.items.length (fun k x => x = (lv, (), (k : Int), (g.ty, g.num, g.text, g.items.map GV.cells, ()), ())) IsB (fun k x rec hk hx hrec => ?_) m 0 _ (by omega) (by omega) rfl
      subst hx
      by_cases hlt : k < g.items.length
      · have hw := wrap_i (k + 1) (by omega) (by omega)
        have hlt' : (k : Int) < g.items.length := by omega
        obtain ⟨r, hr, v, rfl⟩ := ih _ (List.getElem_mem hlt) (hok.get _ (List.getElem_mem hlt)) (IntKind.i64.wrap (lv - 1)) m (by have := (GV.wtL_get g.items k hlt).2; omega)
        simp only [ref01_shallow_l0, xElem_map 4 GV.cells g.items k hlt GV.length_cells, hw, hr, xite_decide, xite_not, xif_decide, Option.bind_some, GV.length_cells, GV.cells0, GV.cells1, GV.cells2, GV.cells3, xDI_v, xDS_s, xDL_sl, xAD_d, xDB_v, List.length_map, Nat.le_refl, if_true, hlt']
        cases v
        · exact ⟨_, rfl, _, rfl⟩
        · exact hrec _ hlt rfl
      · have hlt' : ¬ (k : Int) < g.items.length := by omega
        simp only [ref01_shallow_l0, xite_decide, List.length_map, hlt', if_false]
        exact ⟨_, rfl, _, rfl⟩

theorem ref01_Small_ex (g : GV) (h : g.Ok) (n : Nat) (hn : g.wt + 5 ≤ n) : ∃ b, Φ0 n i_ref01_Small [g.toA] = some (aB b) := by
  obtain ⟨m, rfl⟩ := nat_succ (n := n) (k := 0) (by omega)
  rw [ref01_Small_run]
  obtain ⟨r, hr, v, rfl⟩ := ref01_Count_ex (g.wt + 1) [g] (by simp [GV.wtL]; omega) (by simp) (by simpa using h) 90 m (by omega)
  obtain ⟨r2, hr2, v2, rfl⟩ := ref01_shallow_ex g h 8 m (by omega)
  have hr' : Φ0 m i_ref01_Count [A.one (C.d (D.sl [[D.v (Value.int IntKind.i64 g.ty), D.v (Value.int IntKind.i64 g.num), D.s g.text, D.sl (g.items.map GV.cells)]])), aI 90] = some (aI v) := by
    rw [← hr, ← GV.cells_eq]; rfl
  simp only [ref01_Small, hr', hr2, Option.bind_some, xAD_d, xDI_v, xDB_v, xite_decide]
  split
  · exact ⟨_, rfl⟩
  · exact ⟨_, rfl⟩

end Go.Av
