/-
  ValueCompares, ValueOrders, ValueSizes: whatever the values, true.
-/
import Derived.Test.YtmchldchhgofiaaPvOpen
import Derived.Test.YtmchldchhgofiaaPvOrd
set_option linter.all false
namespace Go.Av
open Go.Proofs
@[simp] theorem beq_self_bool (b : Bool) : (b == b) = true := by cases b <;> rfl

theorem valueCompares_core : ∀ l, ArgsOK TT0 Try.f4.params.toList l → PCall Try.prog 4 l (.one (.d (.v (.bool true)))) := by
  intro l h
  obtain ⟨n, ds, m, es, h1, h2, rfl⟩ := args2 (t := t_Value) (u := t_Value) h
  obtain ⟨a, rfl, ha⟩ := wt_GV n ds h1
  obtain ⟨b, rfl, hb⟩ := wt_GV m es h2
  rw [argA_GV, argA_GV]
  refine Φ0_ok (a.wt + b.wt + 30) 4 _ _ ?_
  generalize hN : a.wt + b.wt + 29 = N
  show Φ0 (a.wt + b.wt + 29 + 1) i_law01_ValueCompares [a.toA, b.toA] = _
  rw [hN, law01_ValueCompares_run]
  obtain ⟨s1, hs1⟩ := ref01_Small_ex a ha N (by omega)
  obtain ⟨s2, hs2⟩ := ref01_Small_ex b hb N (by omega)
  have e0 := alive_spec N (by omega)
  have e1 := value_Compare_spec a ha b hb N (by omega)
  have e2 := value_Compare_spec b hb a ha N (by omega)
  have e3 := ref01_Compare_spec a ha b hb N (by omega)
  have e4 := value_Equal_spec a b ha hb N (by omega)
  have e5 := value_Equal_spec a a ha ha N (by omega)
  have o := ordd a
  have hw : IntKind.i64.wrap (0 - a.cmp b) = - a.cmp b := by
    have := o.range b
    rw [wrap_i _ (by omega) (by omega)]; omega
  rw [o.self] at e5
  rw [o.swap b] at e2
  cases s1
  · simp [law01_ValueCompares, hs1, e0]
  · cases s2
    · simp [law01_ValueCompares, hs1, hs2, e0]
    · simp only [law01_ValueCompares, hs1, hs2, e0, e1, e2, e3, e4, e5, hw, Option.bind_some, xAD_d, xDI_v, xDB_v, xite_decide, xite_not, xite_true, if_true, decide_true, beq_self_bool]

set_option maxHeartbeats 2000000 in
theorem valueOrders_core : ∀ l, ArgsOK TT0 Try.f5.params.toList l → PCall Try.prog 5 l (.one (.d (.v (.bool true)))) := by
  intro l h
  obtain ⟨n, ds, m, es, k, fs, h1, h2, h3, rfl⟩ := args3 (t := t_Value) (u := t_Value) (v := t_Value) h
  obtain ⟨a, rfl, ha⟩ := wt_GV n ds h1
  obtain ⟨b, rfl, hb⟩ := wt_GV m es h2
  obtain ⟨c, rfl, hc⟩ := wt_GV k fs h3
  rw [argA_GV, argA_GV, argA_GV]
  refine Φ0_ok (a.wt + b.wt + c.wt + 30) 5 _ _ ?_
  generalize hN : a.wt + b.wt + c.wt + 29 = N
  show Φ0 (a.wt + b.wt + c.wt + 29 + 1) i_law01_ValueOrders [a.toA, b.toA, c.toA] = _
  rw [hN, law01_ValueOrders_run]
  obtain ⟨s1, hs1⟩ := ref01_Small_ex a ha N (by omega)
  obtain ⟨s2, hs2⟩ := ref01_Small_ex b hb N (by omega)
  obtain ⟨s3, hs3⟩ := ref01_Small_ex c hc N (by omega)
  have e0 := alive_spec N (by omega)
  have e1 := value_Compare_spec a ha b hb N (by omega)
  have e2 := value_Compare_spec b hb c hc N (by omega)
  have e3 := value_Compare_spec a ha c hc N (by omega)
  have e4 := value_Equal_spec a b ha hb N (by omega)
  have r1 := (ordd a).range b
  have t1 := cmp_trans a b c
  have t2 := cmp_trans c b a
  have w1 := (ordd a).swap b
  have w2 := (ordd b).swap c
  have w3 := (ordd a).swap c
  have z := (ordd a).zero b
  cases s1
  · simp [law01_ValueOrders, hs1, e0]
  · cases s2
    · simp [law01_ValueOrders, hs1, hs2, e0]
    · cases s3
      · simp [law01_ValueOrders, hs1, hs2, hs3, e0]
      · have hz : a.cmp b = 0 → b.cmp c = a.cmp c := fun h => by rw [z h]
        rw [w1, w2, w3] at t2
        clear h h1 h2 h3 w1 w2 w3 z
        simp only [law01_ValueOrders, hs1, Option.bind_some, xAD_d, xDB_v, xite_not, xite_true]
        simp only [hs2, Option.bind_some, xAD_d, xDB_v, xite_not, xite_true]
        simp only [hs3, Option.bind_some, xAD_d, xDB_v, xite_not, xite_true]
        simp only [e1, e2, e3, Option.bind_some, xAD_d, xDI_v]
        simp only [e4, e0, Option.bind_some, xAD_d, xDI_v, xDB_v, xite_decide, xite_not, xite_true]
        generalize a.cmp b = x at *
        generalize b.cmp c = y at *
        generalize a.cmp c = z at *
        (repeat' split) <;> first | rfl | (exfalso; omega)

theorem valueSizes_core : ∀ l, ArgsOK TT0 Try.f6.params.toList l → PCall Try.prog 6 l (.one (.d (.v (.bool true)))) := by
  intro l h
  obtain ⟨n, ds, h1, rfl⟩ := args1 (t := t_Value) h
  obtain ⟨g, rfl, hg⟩ := wt_GV n ds h1
  rw [argA_GV]
  refine Φ0_ok (g.wt + 30) 6 _ _ ?_
  generalize hN : g.wt + 29 = N
  show Φ0 (g.wt + 29 + 1) i_law01_ValueSizes [g.toA] = _
  rw [hN, law01_ValueSizes_run]
  obtain ⟨s, hs⟩ := ref01_Small_ex g hg N (by omega)
  have e0 := alive_spec N (by omega)
  have e1 := value_Size_spec g hg N (by omega)
  have e2 := ref01_Size_spec g hg N (by omega)
  cases s
  · simp [law01_ValueSizes, hs, e0]
  · simp only [law01_ValueSizes, hs, Option.bind_some, xAD_d, xDB_v, xite_not, xite_true]
    have hl := GV.wtL_len g.items
    have hwt := GV.wt_eq g
    have hi := hg.len.2
    refine iter_nat g.items.length (fun k => ((), GV.sizeTo g.items k, (k : Int), (g.ty, g.num, g.text, g.items.map GV.cells, ()), ())) (fun k => aB true) (fun k rec hk hrec => ?_) N 0 (by omega) (by omega)
    by_cases hlt : k < g.items.length
    · have hw := wrap_i (k + 1) (by omega) (by omega)
      have hlt' : (k : Int) < g.items.length := by omega
      have hr := hrec (by omega)
      have hc := value_Size_spec _ (hg.get _ (List.getElem_mem hlt)) N (by have := (GV.wtL_get g.items k hlt).2; omega)
      simp only [law01_ValueSizes_l0, List.length_map, xElem_map 4 GV.cells g.items k hlt GV.length_cells, hw, hc, xite_decide, xif_decide, Option.bind_some, GV.length_cells, GV.cells0, GV.cells1, GV.cells2, GV.cells3, xDI_v, xDS_s, xDL_sl, xAD_d, Nat.le_refl, if_true, hlt']
      rw [GV.sizeTo_succ _ _ hlt] at hr
      exact hr
    · have hlt' : ¬ (k : Int) < g.items.length := by omega
      have hs : GV.sizeTo g.items k = g.size := by rw [GV.size_eq, GV.sizeTo, List.take_of_length_le (by omega)]
      simp only [law01_ValueSizes_l0, List.length_map, xite_decide, hlt', if_false, e0, e1, e2, hs, Option.bind_some, xAD_d, xDI_v, xDB_v, if_true]
end Go.Av
