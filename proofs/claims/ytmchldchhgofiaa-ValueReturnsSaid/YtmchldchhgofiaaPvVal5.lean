/-
  The functions on values: what they give, 5: constructors.
-/
import Derived.Test.YtmchldchhgofiaaPvVal4
set_option linter.all false
set_option linter.unusedSimpArgs false
namespace Go.Av

def intE (n : Int) : List D := [.v (.int .i64 n)]
def strE (s : List UInt8) : List D := [.s s]
def rowE (l : List (List UInt8)) : List D := [.sl (l.map strE)]
@[simp] theorem len_intE (n : Int) : (intE n).length = 1 := rfl
@[simp] theorem len_strE (n : List UInt8) : (strE n).length = 1 := rfl
@[simp] theorem len_rowE (n : List (List UInt8)) : (rowE n).length = 1 := rfl
@[simp] theorem get_intE (n : Int) (d : D) : (intE n).getD 0 d = .v (.int .i64 n) := rfl
@[simp] theorem get_strE (n : List UInt8) (d : D) : (strE n).getD 0 d = .s n := rfl
@[simp] theorem get_rowE (n : List (List UInt8)) (d : D) : (rowE n).getD 0 d = .sl (n.map strE) := rfl

abbrev GV.ofInt (n : Int) : GV := .mk 2 n [] []
abbrev GV.ofText (s : List UInt8) : GV := .mk 3 0 s []
abbrev GV.ofTexts (l : List (List UInt8)) : GV := .mk 6 0 [] (l.map GV.ofText)
abbrev GV.ofInts (l : List Int) : GV := .mk 5 0 [] (l.map GV.ofInt)
abbrev GV.ofTable (l : List (List (List UInt8))) : GV := .mk 7 0 [] (l.map GV.ofTexts)
theorem cells_ofInt (n : Int) : (GV.ofInt n).cells = [.v (.int .i64 2), .v (.int .i64 n), .s [], .sl []] := by simp [GV.cells]
theorem cells_ofText (s : List UInt8) : (GV.ofText s).cells = [.v (.int .i64 3), .v (.int .i64 0), .s s, .sl []] := by simp [GV.cells]
theorem cells_ofTexts (l : List (List UInt8)) : (GV.ofTexts l).cells = [.v (.int .i64 6), .v (.int .i64 0), .s [], .sl (l.map fun n => (GV.ofText n).cells)] := by
  have : (GV.ofTexts l).cells = [.v (.int .i64 6), .v (.int .i64 0), .s [], .sl ((l.map GV.ofText).map GV.cells)] := by rw [GV.cells]
  rw [this, List.map_map]; rfl

theorem xApp_snoc {α : Type} (sz by_ : Nat) (f : α → List D) (l : List α) (a : α) (hf : ∀ a, (f a).length = sz) (hb : (l.length + 1) * by_ ≤ 140737488355328) :
    xApp sz by_ (l.map f).length (l.map f) [f a] = some ((l ++ [a]).map f) := by
  unfold xApp
  rw [if_pos]
  · simp
  · refine ⟨rfl, by simp [hf], fun c hc => ?_, by simpa using hb⟩
    obtain ⟨x, _, rfl⟩ := List.mem_map.1 hc
    exact hf x
theorem take_snoc {α : Type} (l : List α) (k : Nat) (h : k < l.length) : l.take k ++ [l[k]] = l.take (k + 1) := (List.take_succ_eq_append_getElem h).symm

theorem value_OfInt_spec (x : Int) (n : Nat) (hn : 1 ≤ n) : Φ0 n i_value_OfInt [aI x] = some (aG 2 x [] []) := by
  obtain ⟨m, rfl⟩ := nat_succ hn
  rw [value_OfInt_run]; rfl
theorem ref01_OfInt_spec (x : Int) (n : Nat) (hn : 1 ≤ n) : Φ0 n i_ref01_OfInt [aI x] = some (aG 2 x [] []) := by
  obtain ⟨m, rfl⟩ := nat_succ hn
  rw [ref01_OfInt_run]; rfl
theorem value_OfText_spec (x : List UInt8) (n : Nat) (hn : 1 ≤ n) : Φ0 n i_value_OfText [aS x] = some (aG 3 0 x []) := by
  obtain ⟨m, rfl⟩ := nat_succ hn
  rw [value_OfText_run]; rfl
theorem ref01_OfText_spec (x : List UInt8) (n : Nat) (hn : 1 ≤ n) : Φ0 n i_ref01_OfText [aS x] = some (aG 3 0 x []) := by
  obtain ⟨m, rfl⟩ := nat_succ hn
  rw [ref01_OfText_run]; rfl

theorem toA_ofInts (l : List Int) : (GV.ofInts l).toA = aG 5 0 [] (l.map fun n => (GV.ofInt n).cells) := by
  show aG 5 0 [] ((l.map GV.ofInt).map GV.cells) = _
  rw [List.map_map]; rfl
theorem toA_ofTexts (l : List (List UInt8)) : (GV.ofTexts l).toA = aG 6 0 [] (l.map fun n => (GV.ofText n).cells) := by
  show aG 6 0 [] ((l.map GV.ofText).map GV.cells) = _
  rw [List.map_map]; rfl
theorem toA_ofTable (l : List (List (List UInt8))) : (GV.ofTable l).toA = aG 7 0 [] (l.map fun n => (GV.ofTexts n).cells) := by
  show aG 7 0 [] ((l.map GV.ofTexts).map GV.cells) = _
  rw [List.map_map]; rfl

theorem value_OfInts_spec (l : List Int) (hl : l.length ≤ 1000000) (n : Nat) (hn : l.length + 3 ≤ n) : Φ0 n i_value_OfInts [.one (.d (.sl (l.map intE)))] = some (GV.ofInts l).toA := by
  obtain ⟨m, rfl⟩ := nat_succ (n := n) (k := 0) (by omega)
  rw [value_OfInts_run, toA_ofInts]
  simp only [value_OfInts, decide_true, xif_true, List.length_map]
  refine iter_nat l.length (fun k => ((), (), l.map intE, (l.length : Int), (k : Int), (0, 0, [], [], ()), (5, 0, [], (l.take k).map fun n => (GV.ofInt n).cells, ()), ())) (fun _ => aG 5 0 [] (l.map fun n => (GV.ofInt n).cells)) (fun k rec hk hrec => ?_) m 0 (by omega) (by omega)
  by_cases hlt : k < l.length
  · have hw := wrap_i (k + 1) (by omega) (by omega)
    have hlt' : (k : Int) < l.length := by omega
    have hr := hrec (by omega)
    have hc := fun x => value_OfInt_spec x m (by omega)
    have ha := xApp_snoc 4 56 (fun n => (GV.ofInt n).cells) (l.take k) l[k] (fun a => GV.length_cells _) (by simp; omega)
    rw [take_snoc l k hlt] at ha
    simp only [cells_ofInt] at ha hr ⊢
    simp only [value_OfInts_l0, List.length_map, xElem_map 1 intE l k hlt len_intE, hw, hc, xite_decide, xif_decide, Option.bind_some, len_intE, get_intE, xDI_v, xDS_s, xDL_sl, xADs_agg, unD_cons, unD_nil, List.length_cons, List.length_nil, List.getD_cons_zero, List.getD_cons_succ, Nat.le_refl, if_true, hlt', Nat.zero_add, Nat.reduceAdd]
    simp only [List.length_map] at ha
    simp only [ha, Option.bind_some, if_true]
    exact hr
  · have hlt' : ¬ (k : Int) < l.length := by omega
    simp only [value_OfInts_l0, List.length_map, xite_decide, hlt', if_false, List.take_of_length_le (show l.length ≤ k by omega)]
theorem value_OfTexts_spec (l : List (List UInt8)) (hl : l.length ≤ 1000000) (n : Nat) (hn : l.length + 3 ≤ n) : Φ0 n i_value_OfTexts [.one (.d (.sl (l.map strE)))] = some (GV.ofTexts l).toA := by
  obtain ⟨m, rfl⟩ := nat_succ (n := n) (k := 0) (by omega)
  rw [value_OfTexts_run, toA_ofTexts]
  simp only [value_OfTexts, decide_true, xif_true, List.length_map]
  refine iter_nat l.length (fun k => ((), (), l.map strE, (l.length : Int), (k : Int), (0, 0, [], [], ()), (6, 0, [], (l.take k).map fun n => (GV.ofText n).cells, ()), ())) (fun _ => aG 6 0 [] (l.map fun n => (GV.ofText n).cells)) (fun k rec hk hrec => ?_) m 0 (by omega) (by omega)
  by_cases hlt : k < l.length
  · have hw := wrap_i (k + 1) (by omega) (by omega)
    have hlt' : (k : Int) < l.length := by omega
    have hr := hrec (by omega)
    have hc := fun x => value_OfText_spec x m (by omega)
    have ha := xApp_snoc 4 56 (fun n => (GV.ofText n).cells) (l.take k) l[k] (fun a => GV.length_cells _) (by simp; omega)
    rw [take_snoc l k hlt] at ha
    simp only [cells_ofText] at ha hr ⊢
    simp only [value_OfTexts_l0, List.length_map, xElem_map 1 strE l k hlt len_strE, hw, hc, xite_decide, xif_decide, Option.bind_some, len_strE, get_strE, xDI_v, xDS_s, xDL_sl, xADs_agg, unD_cons, unD_nil, List.length_cons, List.length_nil, List.getD_cons_zero, List.getD_cons_succ, Nat.le_refl, if_true, hlt', Nat.zero_add, Nat.reduceAdd]
    simp only [List.length_map] at ha
    simp only [ha, Option.bind_some, if_true]
    exact hr
  · have hlt' : ¬ (k : Int) < l.length := by omega
    simp only [value_OfTexts_l0, List.length_map, xite_decide, hlt', if_false, List.take_of_length_le (show l.length ≤ k by omega)]
theorem value_OfTable_spec (l : List (List (List UInt8))) (hl : l.length ≤ 1000000) (n : Nat) (hn : l.length + 3 ≤ n) (hx : ∀ x ∈ l, x.length ≤ 1000000) (hn2 : ∀ x ∈ l, x.length + 4 ≤ n) : Φ0 n i_value_OfTable [.one (.d (.sl (l.map rowE)))] = some (GV.ofTable l).toA := by
  obtain ⟨m, rfl⟩ := nat_succ (n := n) (k := 0) (by omega)
  rw [value_OfTable_run, toA_ofTable]
  simp only [value_OfTable, decide_true, xif_true, List.length_map]
  refine iter_nat l.length (fun k => ((), (), l.map rowE, (l.length : Int), (k : Int), (0, 0, [], [], ()), (7, 0, [], (l.take k).map fun n => (GV.ofTexts n).cells, ()), ())) (fun _ => aG 7 0 [] (l.map fun n => (GV.ofTexts n).cells)) (fun k rec hk hrec => ?_) m 0 (by omega) (by omega)
  by_cases hlt : k < l.length
  · have hw := wrap_i (k + 1) (by omega) (by omega)
    have hlt' : (k : Int) < l.length := by omega
    have hr := hrec (by omega)
    have hc := value_OfTexts_spec l[k] (hx _ (List.getElem_mem hlt)) m (by have := hn2 _ (List.getElem_mem hlt); omega)
    rw [toA_ofTexts] at hc
    have ha := xApp_snoc 4 56 (fun n => (GV.ofTexts n).cells) (l.take k) l[k] (fun a => GV.length_cells _) (by simp; omega)
    rw [take_snoc l k hlt] at ha
    simp only [cells_ofTexts] at ha hr ⊢
    simp only [value_OfTable_l0, List.length_map, xElem_map 1 rowE l k hlt len_rowE, hw, hc, xite_decide, xif_decide, Option.bind_some, len_rowE, get_rowE, xDI_v, xDS_s, xDL_sl, xADs_agg, unD_cons, unD_nil, List.length_cons, List.length_nil, List.getD_cons_zero, List.getD_cons_succ, Nat.le_refl, if_true, hlt', Nat.zero_add, Nat.reduceAdd]
    simp only [List.length_map] at ha
    simp only [ha, Option.bind_some, if_true]
    exact hr
  · have hlt' : ¬ (k : Int) < l.length := by omega
    simp only [value_OfTable_l0, List.length_map, xite_decide, hlt', if_false, List.take_of_length_le (show l.length ≤ k by omega)]
theorem ref01_OfInts_spec (l : List Int) (hl : l.length ≤ 1000000) (n : Nat) (hn : l.length + 3 ≤ n) : Φ0 n i_ref01_OfInts [.one (.d (.sl (l.map intE)))] = some (GV.ofInts l).toA := by
  obtain ⟨m, rfl⟩ := nat_succ (n := n) (k := 0) (by omega)
  rw [ref01_OfInts_run, toA_ofInts]
  simp only [ref01_OfInts, decide_true, xif_true, List.length_map]
  refine iter_nat l.length (fun k => (l.map intE, (), (), (k : Int), (0, 0, [], [], ()), (5, 0, [], (l.take k).map fun n => (GV.ofInt n).cells, ()), ())) (fun _ => aG 5 0 [] (l.map fun n => (GV.ofInt n).cells)) (fun k rec hk hrec => ?_) m 0 (by omega) (by omega)
  by_cases hlt : k < l.length
  · have hw := wrap_i (k + 1) (by omega) (by omega)
    have hlt' : (k : Int) < l.length := by omega
    have hr := hrec (by omega)
    have hc := fun x => ref01_OfInt_spec x m (by omega)
    have ha := xApp_snoc 4 56 (fun n => (GV.ofInt n).cells) (l.take k) l[k] (fun a => GV.length_cells _) (by simp; omega)
    rw [take_snoc l k hlt] at ha
    simp only [cells_ofInt] at ha hr ⊢
    simp only [ref01_OfInts_l0, List.length_map, xElem_map 1 intE l k hlt len_intE, hw, hc, xite_decide, xif_decide, Option.bind_some, len_intE, get_intE, xDI_v, xDS_s, xDL_sl, xADs_agg, unD_cons, unD_nil, List.length_cons, List.length_nil, List.getD_cons_zero, List.getD_cons_succ, Nat.le_refl, if_true, hlt', Nat.zero_add, Nat.reduceAdd]
    simp only [List.length_map] at ha
    simp only [ha, Option.bind_some, if_true]
    exact hr
  · have hlt' : ¬ (k : Int) < l.length := by omega
    simp only [ref01_OfInts_l0, List.length_map, xite_decide, hlt', if_false, List.take_of_length_le (show l.length ≤ k by omega)]
theorem ref01_OfTexts_spec (l : List (List UInt8)) (hl : l.length ≤ 1000000) (n : Nat) (hn : l.length + 3 ≤ n) : Φ0 n i_ref01_OfTexts [.one (.d (.sl (l.map strE)))] = some (GV.ofTexts l).toA := by
  obtain ⟨m, rfl⟩ := nat_succ (n := n) (k := 0) (by omega)
  rw [ref01_OfTexts_run, toA_ofTexts]
  simp only [ref01_OfTexts, decide_true, xif_true, List.length_map]
  refine iter_nat l.length (fun k => (l.map strE, (), (), (k : Int), (0, 0, [], [], ()), (6, 0, [], (l.take k).map fun n => (GV.ofText n).cells, ()), ())) (fun _ => aG 6 0 [] (l.map fun n => (GV.ofText n).cells)) (fun k rec hk hrec => ?_) m 0 (by omega) (by omega)
  by_cases hlt : k < l.length
  · have hw := wrap_i (k + 1) (by omega) (by omega)
    have hlt' : (k : Int) < l.length := by omega
    have hr := hrec (by omega)
    have hc := fun x => ref01_OfText_spec x m (by omega)
    have ha := xApp_snoc 4 56 (fun n => (GV.ofText n).cells) (l.take k) l[k] (fun a => GV.length_cells _) (by simp; omega)
    rw [take_snoc l k hlt] at ha
    simp only [cells_ofText] at ha hr ⊢
    simp only [ref01_OfTexts_l0, List.length_map, xElem_map 1 strE l k hlt len_strE, hw, hc, xite_decide, xif_decide, Option.bind_some, len_strE, get_strE, xDI_v, xDS_s, xDL_sl, xADs_agg, unD_cons, unD_nil, List.length_cons, List.length_nil, List.getD_cons_zero, List.getD_cons_succ, Nat.le_refl, if_true, hlt', Nat.zero_add, Nat.reduceAdd]
    simp only [List.length_map] at ha
    simp only [ha, Option.bind_some, if_true]
    exact hr
  · have hlt' : ¬ (k : Int) < l.length := by omega
    simp only [ref01_OfTexts_l0, List.length_map, xite_decide, hlt', if_false, List.take_of_length_le (show l.length ≤ k by omega)]
theorem ref01_OfTable_spec (l : List (List (List UInt8))) (hl : l.length ≤ 1000000) (n : Nat) (hn : l.length + 3 ≤ n) (hx : ∀ x ∈ l, x.length ≤ 1000000) (hn2 : ∀ x ∈ l, x.length + 4 ≤ n) : Φ0 n i_ref01_OfTable [.one (.d (.sl (l.map rowE)))] = some (GV.ofTable l).toA := by
  obtain ⟨m, rfl⟩ := nat_succ (n := n) (k := 0) (by omega)
  rw [ref01_OfTable_run, toA_ofTable]
  simp only [ref01_OfTable, decide_true, xif_true, List.length_map]
  refine iter_nat l.length (fun k => (l.map rowE, (), (), (k : Int), (0, 0, [], [], ()), (7, 0, [], (l.take k).map fun n => (GV.ofTexts n).cells, ()), ())) (fun _ => aG 7 0 [] (l.map fun n => (GV.ofTexts n).cells)) (fun k rec hk hrec => ?_) m 0 (by omega) (by omega)
  by_cases hlt : k < l.length
  · have hw := wrap_i (k + 1) (by omega) (by omega)
    have hlt' : (k : Int) < l.length := by omega
    have hr := hrec (by omega)
    have hc := ref01_OfTexts_spec l[k] (hx _ (List.getElem_mem hlt)) m (by have := hn2 _ (List.getElem_mem hlt); omega)
    rw [toA_ofTexts] at hc
    have ha := xApp_snoc 4 56 (fun n => (GV.ofTexts n).cells) (l.take k) l[k] (fun a => GV.length_cells _) (by simp; omega)
    rw [take_snoc l k hlt] at ha
    simp only [cells_ofTexts] at ha hr ⊢
    simp only [ref01_OfTable_l0, List.length_map, xElem_map 1 rowE l k hlt len_rowE, hw, hc, xite_decide, xif_decide, Option.bind_some, len_rowE, get_rowE, xDI_v, xDS_s, xDL_sl, xADs_agg, unD_cons, unD_nil, List.length_cons, List.length_nil, List.getD_cons_zero, List.getD_cons_succ, Nat.le_refl, if_true, hlt', Nat.zero_add, Nat.reduceAdd]
    simp only [List.length_map] at ha
    simp only [ha, Option.bind_some, if_true]
    exact hr
  · have hlt' : ¬ (k : Int) < l.length := by omega
    simp only [ref01_OfTable_l0, List.length_map, xite_decide, hlt', if_false, List.take_of_length_le (show l.length ≤ k by omega)]
end Go.Av
