/-
  The functions on values: what they give, 6: readers.
-/
import Derived.Test.YtmchldchhgofiaaPvVal5
import Derived.Test.YtmchldchhgofiaaPvOrd
set_option linter.all false
set_option linter.unusedSimpArgs false
namespace Go.Av

theorem chkL_mem (t : Int) : ∀ l : List GV, GV.chkL t l = 0 → ∀ x ∈ l, x.ty = t ∧ x.chk = 0
  | [], _, x, hx => by cases hx
  | y :: ys, h, x, hx => by
    rw [GV.chkL] at h
    split at h
    · omega
    · rename_i h1
      split at h
      · contradiction
      · rename_i h2
        rcases List.mem_cons.1 hx with rfl | hx
        · exact ⟨by simpa using h1, by simpa using h2⟩
        · exact chkL_mem t ys h x hx
theorem chkR_mem (w : Nat) : ∀ l : List GV, GV.chkR w l = 0 → ∀ x ∈ l, x.ty = 6 ∧ x.chk = 0 ∧ x.items.length ≤ 8 ∧ x.items.length = w ∧ 1 ≤ w
  | [], _, x, hx => by cases hx
  | y :: ys, h, x, hx => by
    rw [GV.chkR] at h
    split at h
    · omega
    · rename_i h1
      split at h
      · omega
      · rename_i h3
        split at h
        · contradiction
        · rename_i h2
          rcases List.mem_cons.1 hx with rfl | hx
          · exact ⟨by simpa using h1, by simpa using h2, by omega, by omega, by omega⟩
          · exact chkR_mem w ys h x hx
theorem GV.chk_eq (g : GV) : g.chk = if g.ty < 1 ∨ 8 < g.ty then 3
    else if unusedF g.ty g.num g.text g.items.length = false then 4
    else if g.ty = 1 then rangedF g.num 0 1
    else if g.ty = 2 then rangedF g.num (-1000000) 1000000
    else if g.ty = 4 then rangedF g.num 0 255
    else if g.ty = 8 then sizedF g.text 1 40
    else if g.ty = 3 then sizedF g.text 0 64
    else if g.ty = 5 then (if (16 : Int) < g.items.length then 2 else GV.chkL 2 g.items)
    else if g.ty = 6 then (if (16 : Int) < g.items.length then 2 else GV.chkL 3 g.items)
    else if (8 : Int) < g.items.length then 2 else GV.chkR ((g.items.head?.map fun g => g.items.length).getD 0) g.items := by
  cases g; rw [GV.chk]; rfl
theorem chk2 (g : GV) (h1 : g.ty = 2) (h : g.chk = 0) : g = GV.ofInt g.num := by
  rw [GV.chk_eq] at h
  simp [h1, unusedF] at h
  by_cases ht : g.text = []
  · by_cases hi : g.items = []
    · exact GV.eq_of _ _ h1 rfl ht hi
    · simp [ht, hi] at h
  · simp [ht] at h
theorem chk3 (g : GV) (h1 : g.ty = 3) (h : g.chk = 0) : g = GV.ofText g.text := by
  rw [GV.chk_eq] at h
  simp [h1, unusedF] at h
  by_cases ht : g.num = 0
  · by_cases hi : g.items = []
    · exact GV.eq_of _ _ h1 ht rfl hi
    · simp [ht, hi] at h
  · simp [ht] at h
theorem chk567 (g : GV) (h1 : g.ty = 5 ∨ g.ty = 6 ∨ g.ty = 7) (h : g.chk = 0) : g.num = 0 ∧ g.text = [] ∧ (g.ty = 5 → g.items.length ≤ 16 ∧ GV.chkL 2 g.items = 0) ∧ (g.ty = 6 → g.items.length ≤ 16 ∧ GV.chkL 3 g.items = 0) ∧
    (g.ty = 7 → g.items.length ≤ 8 ∧ GV.chkR ((g.items.head?.map fun g => g.items.length).getD 0) g.items = 0) := by
  rw [GV.chk_eq] at h
  by_cases ht : g.text = []
  · by_cases hn : g.num = 0
    · refine ⟨hn, ht, fun h5 => ?_, fun h6 => ?_, fun h7 => ?_⟩
      · simp [h5, unusedF, ht, hn] at h
        split at h
        · simp at h
        · exact ⟨by omega, h⟩
      · simp [h6, unusedF, ht, hn] at h
        split at h
        · simp at h
        · exact ⟨by omega, h⟩
      · simp [h7, unusedF, ht, hn] at h
        split at h
        · simp at h
        · exact ⟨by omega, h⟩
    · rcases h1 with h1 | h1 | h1 <;> simp [h1, unusedF, ht, hn] at h
  · rcases h1 with h1 | h1 | h1 <;> simp [h1, unusedF, ht] at h
theorem map_eq_self {α : Type} (f : α → α) : ∀ l : List α, (∀ x ∈ l, x = f x) → l = l.map f
  | [], _ => rfl
  | x :: xs, h => by
    rw [List.map_cons, ← h x (List.mem_cons_self ..), ← map_eq_self f xs fun y hy => h y (List.mem_cons_of_mem _ hy)]
theorem chk5 (g : GV) (h1 : g.ty = 5) (h : g.chk = 0) : g.items.length ≤ 16 ∧ g = GV.ofInts (g.items.map GV.num) := by
  obtain ⟨h2, h3, h4, _⟩ := chk567 g (.inl h1) h
  obtain ⟨h5, h6⟩ := h4 h1
  refine ⟨h5, GV.eq_of _ _ h1 h2 h3 ?_⟩
  show g.items = (g.items.map GV.num).map GV.ofInt
  rw [List.map_map]
  exact map_eq_self _ _ fun x hx => chk2 x (chkL_mem 2 _ h6 x hx).1 (chkL_mem 2 _ h6 x hx).2
theorem chk6 (g : GV) (h1 : g.ty = 6) (h : g.chk = 0) : g.items.length ≤ 16 ∧ g = GV.ofTexts (g.items.map GV.text) := by
  obtain ⟨h2, h3, _, h4, _⟩ := chk567 g (.inr (.inl h1)) h
  obtain ⟨h5, h6⟩ := h4 h1
  refine ⟨h5, GV.eq_of _ _ h1 h2 h3 ?_⟩
  show g.items = (g.items.map GV.text).map GV.ofText
  rw [List.map_map]
  exact map_eq_self _ _ fun x hx => chk3 x (chkL_mem 3 _ h6 x hx).1 (chkL_mem 3 _ h6 x hx).2
def GV.row (g : GV) : List (List UInt8) := g.items.map GV.text
theorem chk7 (g : GV) (h1 : g.ty = 7) (h : g.chk = 0) : g.items.length ≤ 8 ∧ g = GV.ofTable (g.items.map GV.row) ∧ ∀ x ∈ g.items, x.ty = 6 ∧ x.chk = 0 := by
  obtain ⟨h2, h3, _, _, h4⟩ := chk567 g (.inr (.inr h1)) h
  obtain ⟨h5, h6⟩ := h4 h1
  refine ⟨h5, GV.eq_of _ _ h1 h2 h3 ?_, fun x hx => ⟨(chkR_mem _ _ h6 x hx).1, (chkR_mem _ _ h6 x hx).2.1⟩⟩
  show g.items = (g.items.map GV.row).map GV.ofTexts
  rw [List.map_map]
  exact map_eq_self _ _ fun x hx => (chk6 x (chkR_mem _ _ h6 x hx).1 (chkR_mem _ _ h6 x hx).2.1).2

theorem value_Ints_no (g : GV) (h : g.Ok) (hc : ¬ (g.ty = 5 ∧ g.chk = 0)) (n : Nat) (hn : g.wt + 4 ≤ n) : Φ0 n i_value_Ints [g.toA] = some (.tup [.one (.d (.sl [])), aB false]) := by
  obtain ⟨m, rfl⟩ := nat_succ (n := n) (k := 0) (by omega)
  rw [value_Ints_run]
  have e := value_Check_spec g h m (by omega)
  simp only [value_Ints, e, xite_decide, xite_not, Option.bind_some, xAD_d, xDI_v]
  by_cases h1 : g.ty = 5
  · have h2 : ¬ g.chk = 0 := fun h2 => hc ⟨h1, h2⟩
    simp only [h1, h2, if_true, if_false]
  · simp only [h1, if_false]
theorem value_Ints_yes (g : GV) (h : g.Ok) (h1 : g.ty = 5) (h2 : g.chk = 0) (n : Nat) (hn : g.wt + 4 ≤ n) : Φ0 n i_value_Ints [g.toA] = some (.tup [.one (.d (.sl (g.items.map fun x => intE (GV.num x)))), aB true]) := by
  obtain ⟨m, rfl⟩ := nat_succ (n := n) (k := 0) (by omega)
  rw [value_Ints_run]
  have e := value_Check_spec g h m (by omega)
  have hwt := GV.wt_eq g
  have hll := GV.wtL_len g.items
  have hlim := (chk5 g h1 h2).1
  simp only [value_Ints, e, h2, xite_decide, xite_not, Option.bind_some, xAD_d, xDI_v, decide_true, xif_true, List.length_map, if_true, eq_true h1]
  refine iter_nat g.items.length (fun k => ((g.items.take k).map fun x => intE (GV.num x), g.items.map GV.cells, (g.items.length : Int), (k : Int), ())) (fun _ => A.tup [.one (.d (.sl (g.items.map fun x => intE (GV.num x)))), aB true]) (fun k rec hk hrec => ?_) m 0 (by omega) (by omega)
  by_cases hlt : k < g.items.length
  · have hw := wrap_i (k + 1) (by omega) (by omega)
    have hlt' : (k : Int) < g.items.length := by omega
    have hr := hrec (by omega)
    have ha : xApp 1 8 ((g.items.take k).map fun x => intE (GV.num x)).length ((g.items.take k).map fun x => intE (GV.num x)) [[D.v (.int .i64 g.items[k].num)]] = _ := xApp_snoc 1 8 (fun x : GV => intE (GV.num x)) (g.items.take k) g.items[k] (fun a => rfl) (by simp; omega)
    rw [take_snoc g.items k hlt] at ha
    simp only [value_Ints_l0, List.length_map, xElem_map 4 GV.cells g.items k hlt GV.length_cells, hw, xite_decide, xif_decide, Option.bind_some, GV.length_cells, GV.cells0, GV.cells1, GV.cells2, GV.cells3, xDI_v, xDS_s, xDL_sl, xAD_d, Nat.le_refl, if_true, hlt', Nat.reduceLeDiff, GV.drop1, GV.drop2, GV.drop3, List.length_cons, List.length_nil, List.getD_cons_zero, Nat.zero_add, Nat.reduceAdd]
    simp only [List.length_map] at ha
    simp only [ha, Option.bind_some, if_true]
    exact hr
  · have hlt' : ¬ (k : Int) < g.items.length := by omega
    simp only [value_Ints_l0, List.length_map, xite_decide, hlt', if_false, List.take_of_length_le (show g.items.length ≤ k by omega)]
theorem value_Texts_no (g : GV) (h : g.Ok) (hc : ¬ (g.ty = 6 ∧ g.chk = 0)) (n : Nat) (hn : g.wt + 4 ≤ n) : Φ0 n i_value_Texts [g.toA] = some (.tup [.one (.d (.sl [])), aB false]) := by
  obtain ⟨m, rfl⟩ := nat_succ (n := n) (k := 0) (by omega)
  rw [value_Texts_run]
  have e := value_Check_spec g h m (by omega)
  simp only [value_Texts, e, xite_decide, xite_not, Option.bind_some, xAD_d, xDI_v]
  by_cases h1 : g.ty = 6
  · have h2 : ¬ g.chk = 0 := fun h2 => hc ⟨h1, h2⟩
    simp only [h1, h2, if_true, if_false]
  · simp only [h1, if_false]
theorem value_Texts_yes (g : GV) (h : g.Ok) (h1 : g.ty = 6) (h2 : g.chk = 0) (n : Nat) (hn : g.wt + 4 ≤ n) : Φ0 n i_value_Texts [g.toA] = some (.tup [.one (.d (.sl (g.items.map fun x => strE (GV.text x)))), aB true]) := by
  obtain ⟨m, rfl⟩ := nat_succ (n := n) (k := 0) (by omega)
  rw [value_Texts_run]
  have e := value_Check_spec g h m (by omega)
  have hwt := GV.wt_eq g
  have hll := GV.wtL_len g.items
  have hlim := (chk6 g h1 h2).1
  simp only [value_Texts, e, h2, xite_decide, xite_not, Option.bind_some, xAD_d, xDI_v, decide_true, xif_true, List.length_map, if_true, eq_true h1]
  refine iter_nat g.items.length (fun k => ((g.items.take k).map fun x => strE (GV.text x), g.items.map GV.cells, (g.items.length : Int), (k : Int), ())) (fun _ => A.tup [.one (.d (.sl (g.items.map fun x => strE (GV.text x)))), aB true]) (fun k rec hk hrec => ?_) m 0 (by omega) (by omega)
  by_cases hlt : k < g.items.length
  · have hw := wrap_i (k + 1) (by omega) (by omega)
    have hlt' : (k : Int) < g.items.length := by omega
    have hr := hrec (by omega)
    have ha : xApp 1 16 ((g.items.take k).map fun x => strE (GV.text x)).length ((g.items.take k).map fun x => strE (GV.text x)) [[D.s g.items[k].text]] = _ := xApp_snoc 1 16 (fun x : GV => strE (GV.text x)) (g.items.take k) g.items[k] (fun a => rfl) (by simp; omega)
    rw [take_snoc g.items k hlt] at ha
    simp only [value_Texts_l0, List.length_map, xElem_map 4 GV.cells g.items k hlt GV.length_cells, hw, xite_decide, xif_decide, Option.bind_some, GV.length_cells, GV.cells0, GV.cells1, GV.cells2, GV.cells3, xDI_v, xDS_s, xDL_sl, xAD_d, Nat.le_refl, if_true, hlt', Nat.reduceLeDiff, GV.drop1, GV.drop2, GV.drop3, List.length_cons, List.length_nil, List.getD_cons_zero, Nat.zero_add, Nat.reduceAdd]
    simp only [List.length_map] at ha
    simp only [ha, Option.bind_some, if_true]
    exact hr
  · have hlt' : ¬ (k : Int) < g.items.length := by omega
    simp only [value_Texts_l0, List.length_map, xite_decide, hlt', if_false, List.take_of_length_le (show g.items.length ≤ k by omega)]
theorem value_Rows_no (g : GV) (h : g.Ok) (hc : ¬ (g.ty = 7 ∧ g.chk = 0)) (n : Nat) (hn : g.wt + 4 ≤ n) : Φ0 n i_value_Rows [g.toA] = some (.tup [.one (.d (.sl [])), aB false]) := by
  obtain ⟨m, rfl⟩ := nat_succ (n := n) (k := 0) (by omega)
  rw [value_Rows_run]
  have e := value_Check_spec g h m (by omega)
  simp only [value_Rows, e, xite_decide, xite_not, Option.bind_some, xAD_d, xDI_v]
  by_cases h1 : g.ty = 7
  · have h2 : ¬ g.chk = 0 := fun h2 => hc ⟨h1, h2⟩
    simp only [h1, h2, if_true, if_false]
  · simp only [h1, if_false]
theorem value_Rows_yes (g : GV) (h : g.Ok) (h1 : g.ty = 7) (h2 : g.chk = 0) (n : Nat) (hn : g.wt + 6 ≤ n) : Φ0 n i_value_Rows [g.toA] = some (.tup [.one (.d (.sl (g.items.map fun x => rowE (GV.row x)))), aB true]) := by
  obtain ⟨m, rfl⟩ := nat_succ (n := n) (k := 0) (by omega)
  rw [value_Rows_run]
  have e := value_Check_spec g h m (by omega)
  have hwt := GV.wt_eq g
  have hll := GV.wtL_len g.items
  have hlim := (chk7 g h1 h2).1
  simp only [value_Rows, e, h2, xite_decide, xite_not, Option.bind_some, xAD_d, xDI_v, decide_true, xif_true, List.length_map, if_true, eq_true h1]
  refine iter_nat g.items.length (fun k => ((g.items.take k).map fun x => rowE (GV.row x), g.items.map GV.cells, (g.items.length : Int), (k : Int), ())) (fun _ => A.tup [.one (.d (.sl (g.items.map fun x => rowE (GV.row x)))), aB true]) (fun k rec hk hrec => ?_) m 0 (by omega) (by omega)
  by_cases hlt : k < g.items.length
  · have hw := wrap_i (k + 1) (by omega) (by omega)
    have hlt' : (k : Int) < g.items.length := by omega
    have hr := hrec (by omega)
    have hx := (chk7 g h1 h2).2.2 _ (List.getElem_mem hlt)
    have hc := value_Texts_yes g.items[k] (h.get _ (List.getElem_mem hlt)) hx.1 hx.2 m (by have := (GV.wtL_get g.items k hlt).2; omega)
    have ha : xApp 1 24 ((g.items.take k).map fun x => rowE (GV.row x)).length ((g.items.take k).map fun x => rowE (GV.row x)) [rowE g.items[k].row] = _ := xApp_snoc 1 24 (fun x : GV => rowE (GV.row x)) (g.items.take k) g.items[k] (fun a => rfl) (by simp; omega)
    rw [take_snoc g.items k hlt] at ha
    have hrow : rowE g.items[k].row = [D.sl (g.items[k].items.map fun x => strE x.text)] := by rw [rowE, GV.row, List.map_map]; rfl
    rw [hrow] at ha
    simp only [value_Rows_l0, List.length_map, xElem_map 4 GV.cells g.items k hlt GV.length_cells, hw, xite_decide, xif_decide, Option.bind_some, GV.length_cells, GV.cells0, GV.cells1, GV.cells2, GV.cells3, xDI_v, xDS_s, xDL_sl, xAD_d, Nat.le_refl, if_true, hlt', Nat.reduceLeDiff, GV.drop1, GV.drop2, GV.drop3, List.length_cons, List.length_nil, List.getD_cons_zero, Nat.zero_add, Nat.reduceAdd, hc, xtup_tup, List.getElem?_cons_zero, List.getElem?_cons_succ, xDB_v]
    simp only [List.length_map] at ha
    simp only [ha, Option.bind_some, if_true]
    exact hr
  · have hlt' : ¬ (k : Int) < g.items.length := by omega
    simp only [value_Rows_l0, List.length_map, xite_decide, hlt', if_false, List.take_of_length_le (show g.items.length ≤ k by omega)]
theorem ref01_Ints_no (g : GV) (h : g.Ok) (hc : ¬ (g.ty = 5 ∧ g.chk = 0)) (n : Nat) (hn : g.wt + 4 ≤ n) : Φ0 n i_ref01_Ints [g.toA] = some (.tup [.one (.d (.sl [])), aB false]) := by
  obtain ⟨m, rfl⟩ := nat_succ (n := n) (k := 0) (by omega)
  rw [ref01_Ints_run]
  have e := ref01_Check_spec g h m (by omega)
  simp only [ref01_Ints, e, xite_decide, xite_not, Option.bind_some, xAD_d, xDI_v]
  by_cases h1 : g.ty = 5
  · have h2 : ¬ g.chk = 0 := fun h2 => hc ⟨h1, h2⟩
    simp only [h1, h2, if_true, if_false]
  · simp only [h1, if_false]
theorem ref01_Ints_yes (g : GV) (h : g.Ok) (h1 : g.ty = 5) (h2 : g.chk = 0) (n : Nat) (hn : g.wt + 4 ≤ n) : Φ0 n i_ref01_Ints [g.toA] = some (.tup [.one (.d (.sl (g.items.map fun x => intE (GV.num x)))), aB true]) := by
  obtain ⟨m, rfl⟩ := nat_succ (n := n) (k := 0) (by omega)
  rw [ref01_Ints_run]
  have e := ref01_Check_spec g h m (by omega)
  have hwt := GV.wt_eq g
  have hll := GV.wtL_len g.items
  have hlim := (chk5 g h1 h2).1
  simp only [ref01_Ints, e, h2, xite_decide, xite_not, Option.bind_some, xAD_d, xDI_v, decide_true, xif_true, List.length_map, if_true, eq_true h1]
  refine iter_nat g.items.length (fun k => ((), (g.items.take k).map fun x => intE (GV.num x), (k : Int), (g.ty, g.num, g.text, g.items.map GV.cells, ()), ())) (fun _ => A.tup [.one (.d (.sl (g.items.map fun x => intE (GV.num x)))), aB true]) (fun k rec hk hrec => ?_) m 0 (by omega) (by omega)
  by_cases hlt : k < g.items.length
  · have hw := wrap_i (k + 1) (by omega) (by omega)
    have hlt' : (k : Int) < g.items.length := by omega
    have hr := hrec (by omega)
    have ha : xApp 1 8 ((g.items.take k).map fun x => intE (GV.num x)).length ((g.items.take k).map fun x => intE (GV.num x)) [[D.v (.int .i64 g.items[k].num)]] = _ := xApp_snoc 1 8 (fun x : GV => intE (GV.num x)) (g.items.take k) g.items[k] (fun a => rfl) (by simp; omega)
    rw [take_snoc g.items k hlt] at ha
    simp only [ref01_Ints_l0, List.length_map, xElem_map 4 GV.cells g.items k hlt GV.length_cells, hw, xite_decide, xif_decide, Option.bind_some, GV.length_cells, GV.cells0, GV.cells1, GV.cells2, GV.cells3, xDI_v, xDS_s, xDL_sl, xAD_d, Nat.le_refl, if_true, hlt', Nat.reduceLeDiff, GV.drop1, GV.drop2, GV.drop3, List.length_cons, List.length_nil, List.getD_cons_zero, Nat.zero_add, Nat.reduceAdd]
    simp only [List.length_map] at ha
    simp only [ha, Option.bind_some, if_true]
    exact hr
  · have hlt' : ¬ (k : Int) < g.items.length := by omega
    simp only [ref01_Ints_l0, List.length_map, xite_decide, hlt', if_false, List.take_of_length_le (show g.items.length ≤ k by omega)]
theorem ref01_Texts_no (g : GV) (h : g.Ok) (hc : ¬ (g.ty = 6 ∧ g.chk = 0)) (n : Nat) (hn : g.wt + 4 ≤ n) : Φ0 n i_ref01_Texts [g.toA] = some (.tup [.one (.d (.sl [])), aB false]) := by
  obtain ⟨m, rfl⟩ := nat_succ (n := n) (k := 0) (by omega)
  rw [ref01_Texts_run]
  have e := ref01_Check_spec g h m (by omega)
  simp only [ref01_Texts, e, xite_decide, xite_not, Option.bind_some, xAD_d, xDI_v]
  by_cases h1 : g.ty = 6
  · have h2 : ¬ g.chk = 0 := fun h2 => hc ⟨h1, h2⟩
    simp only [h1, h2, if_true, if_false]
  · simp only [h1, if_false]
theorem ref01_Texts_yes (g : GV) (h : g.Ok) (h1 : g.ty = 6) (h2 : g.chk = 0) (n : Nat) (hn : g.wt + 4 ≤ n) : Φ0 n i_ref01_Texts [g.toA] = some (.tup [.one (.d (.sl (g.items.map fun x => strE (GV.text x)))), aB true]) := by
  obtain ⟨m, rfl⟩ := nat_succ (n := n) (k := 0) (by omega)
  rw [ref01_Texts_run]
  have e := ref01_Check_spec g h m (by omega)
  have hwt := GV.wt_eq g
  have hll := GV.wtL_len g.items
  have hlim := (chk6 g h1 h2).1
  simp only [ref01_Texts, e, h2, xite_decide, xite_not, Option.bind_some, xAD_d, xDI_v, decide_true, xif_true, List.length_map, if_true, eq_true h1]
  refine iter_nat g.items.length (fun k => ((), (g.items.take k).map fun x => strE (GV.text x), (k : Int), (g.ty, g.num, g.text, g.items.map GV.cells, ()), ())) (fun _ => A.tup [.one (.d (.sl (g.items.map fun x => strE (GV.text x)))), aB true]) (fun k rec hk hrec => ?_) m 0 (by omega) (by omega)
  by_cases hlt : k < g.items.length
  · have hw := wrap_i (k + 1) (by omega) (by omega)
    have hlt' : (k : Int) < g.items.length := by omega
    have hr := hrec (by omega)
    have ha : xApp 1 16 ((g.items.take k).map fun x => strE (GV.text x)).length ((g.items.take k).map fun x => strE (GV.text x)) [[D.s g.items[k].text]] = _ := xApp_snoc 1 16 (fun x : GV => strE (GV.text x)) (g.items.take k) g.items[k] (fun a => rfl) (by simp; omega)
    rw [take_snoc g.items k hlt] at ha
    simp only [ref01_Texts_l0, List.length_map, xElem_map 4 GV.cells g.items k hlt GV.length_cells, hw, xite_decide, xif_decide, Option.bind_some, GV.length_cells, GV.cells0, GV.cells1, GV.cells2, GV.cells3, xDI_v, xDS_s, xDL_sl, xAD_d, Nat.le_refl, if_true, hlt', Nat.reduceLeDiff, GV.drop1, GV.drop2, GV.drop3, List.length_cons, List.length_nil, List.getD_cons_zero, Nat.zero_add, Nat.reduceAdd]
    simp only [List.length_map] at ha
    simp only [ha, Option.bind_some, if_true]
    exact hr
  · have hlt' : ¬ (k : Int) < g.items.length := by omega
    simp only [ref01_Texts_l0, List.length_map, xite_decide, hlt', if_false, List.take_of_length_le (show g.items.length ≤ k by omega)]
theorem ref01_Rows_no (g : GV) (h : g.Ok) (hc : ¬ (g.ty = 7 ∧ g.chk = 0)) (n : Nat) (hn : g.wt + 4 ≤ n) : Φ0 n i_ref01_Rows [g.toA] = some (.tup [.one (.d (.sl [])), aB false]) := by
  obtain ⟨m, rfl⟩ := nat_succ (n := n) (k := 0) (by omega)
  rw [ref01_Rows_run]
  have e := ref01_Check_spec g h m (by omega)
  simp only [ref01_Rows, e, xite_decide, xite_not, Option.bind_some, xAD_d, xDI_v]
  by_cases h1 : g.ty = 7
  · have h2 : ¬ g.chk = 0 := fun h2 => hc ⟨h1, h2⟩
    simp only [h1, h2, if_true, if_false]
  · simp only [h1, if_false]
theorem ref01_Rows_yes (g : GV) (h : g.Ok) (h1 : g.ty = 7) (h2 : g.chk = 0) (n : Nat) (hn : g.wt + 6 ≤ n) : Φ0 n i_ref01_Rows [g.toA] = some (.tup [.one (.d (.sl (g.items.map fun x => rowE (GV.row x)))), aB true]) := by
  obtain ⟨m, rfl⟩ := nat_succ (n := n) (k := 0) (by omega)
  rw [ref01_Rows_run]
  have e := ref01_Check_spec g h m (by omega)
  have hwt := GV.wt_eq g
  have hll := GV.wtL_len g.items
  have hlim := (chk7 g h1 h2).1
  simp only [ref01_Rows, e, h2, xite_decide, xite_not, Option.bind_some, xAD_d, xDI_v, decide_true, xif_true, List.length_map, if_true, eq_true h1]
  refine iter_nat g.items.length (fun k => ((), (g.items.take k).map fun x => rowE (GV.row x), (k : Int), (g.ty, g.num, g.text, g.items.map GV.cells, ()), ())) (fun _ => A.tup [.one (.d (.sl (g.items.map fun x => rowE (GV.row x)))), aB true]) (fun k rec hk hrec => ?_) m 0 (by omega) (by omega)
  by_cases hlt : k < g.items.length
  · have hw := wrap_i (k + 1) (by omega) (by omega)
    have hlt' : (k : Int) < g.items.length := by omega
    have hr := hrec (by omega)
    have hx := (chk7 g h1 h2).2.2 _ (List.getElem_mem hlt)
    have hc := ref01_Texts_yes g.items[k] (h.get _ (List.getElem_mem hlt)) hx.1 hx.2 m (by have := (GV.wtL_get g.items k hlt).2; omega)
    have ha : xApp 1 24 ((g.items.take k).map fun x => rowE (GV.row x)).length ((g.items.take k).map fun x => rowE (GV.row x)) [rowE g.items[k].row] = _ := xApp_snoc 1 24 (fun x : GV => rowE (GV.row x)) (g.items.take k) g.items[k] (fun a => rfl) (by simp; omega)
    rw [take_snoc g.items k hlt] at ha
    have hrow : rowE g.items[k].row = [D.sl (g.items[k].items.map fun x => strE x.text)] := by rw [rowE, GV.row, List.map_map]; rfl
    rw [hrow] at ha
    simp only [ref01_Rows_l0, List.length_map, xElem_map 4 GV.cells g.items k hlt GV.length_cells, hw, xite_decide, xif_decide, Option.bind_some, GV.length_cells, GV.cells0, GV.cells1, GV.cells2, GV.cells3, xDI_v, xDS_s, xDL_sl, xAD_d, Nat.le_refl, if_true, hlt', Nat.reduceLeDiff, GV.drop1, GV.drop2, GV.drop3, List.length_cons, List.length_nil, List.getD_cons_zero, Nat.zero_add, Nat.reduceAdd, hc, xtup_tup, List.getElem?_cons_zero, List.getElem?_cons_succ, xDB_v]
    simp only [List.length_map] at ha
    simp only [ha, Option.bind_some, if_true]
    exact hr
  · have hlt' : ¬ (k : Int) < g.items.length := by omega
    simp only [ref01_Rows_l0, List.length_map, xite_decide, hlt', if_false, List.take_of_length_le (show g.items.length ≤ k by omega)]
end Go.Av
