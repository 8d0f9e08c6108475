/-
  Operations on blocks under counted names, 2: what is made, appended, copied, cleared. Over any program. No toy.
-/
import Derived.Test.YtnfbgleaodkjpaaHvOpsH
set_option linter.all false
namespace Go.Av
open Go.RowKit

/-- The elements of a slice that is read, in a world. -/
def SrcR (w : World) (W : WSet) (E : Env) (v : Value) (ys : List C) : Prop :=
  ∃ b cap, ∃ us : List Value, v = .slice b ys.length cap ∧ us.length = ys.length ∧ (∀ (i : Nat) (c : C), ys[i]? = some c → c.hok = true ∧ RepC w W E c (us.getD i undef)) ∧
    (ys = [] ∨ ∃ g off, b = some ⟨g, off, none⟩ ∧ ys.length ≤ cap ∧ ∀ j, j < ys.length → w.cell? ⟨g, off + j, none⟩ = some (us.getD j undef))

section sound
variable {P : Program} {x : Ent} {s : St} {a : Act} {w : World} {K : A → St → Prop}

theorem hCells_repD {W : WSet} {E : Env} {v : Value} {ys : List C} {es : List (List D)} (hd : RepD w W (.sl es) v) (hx : (xOnes es).map (·.map C.d) = some ys) : SrcR w W E v ys := by
  simp only [Option.map_eq_some_iff] at hx
  obtain ⟨ds, hds, rfl⟩ := hx
  have hes := xOnes_some hds
  have hsz : ∀ e ∈ es, e.length = 1 := by rw [hes]; intro e he; obtain ⟨d, _, rfl⟩ := List.mem_map.1 he; rfl
  have hfl : es.flatten = ds := by rw [hes]; clear hes hds hd hsz; induction ds with | nil => rfl | cons d ds ih => simp [ih]
  obtain ⟨b, cap, vals, h1, h2, h3', h4, h5⟩ := hd.sl_inv hsz
  have hl : es.length = ds.length := by rw [hes, List.length_map]
  refine ⟨b, cap, vals, by rw [List.length_map, ← hl]; exact h1, by rw [h2, hl, List.length_map]; omega, fun i c hi => ?_, ?_⟩
  · simp only [List.getElem?_map, Option.map_eq_some_iff] at hi
    obtain ⟨d, hd, rfl⟩ := hi
    exact ⟨rfl, h4 i d (by rw [hfl]; exact hd)⟩
  · rcases h5 with rfl | ⟨g, off, hb, hcap, hcell⟩
    · left; simp at hl; rw [List.eq_nil_of_length_eq_zero hl.symm]; rfl
    · right
      refine ⟨g, off, hb, by rw [List.length_map, ← hl]; exact hcap, fun j hj => ?_⟩
      rw [List.length_map, ← hl] at hj
      exact (hcell j (by omega)).1

theorem hCells_rep {E : Env} (h3 : RepE P x s w E) {c : C} {v : Value} {ys : List C} (h : RepC w (Wn x s E) E c v) (hc : hCells s.H c = some ys) : SrcR w (Wn x s E) E v ys := by
  cases c with
  | hs k off len =>
    simp only [hCells, Option.bind_eq_some_iff] at hc
    obtain ⟨o, ho, hc⟩ := hc
    split at hc
    · rename_i hle
      simp only [Option.some.injEq] at hc
      subst hc
      have hk := hGet_some ho
      have hyl : ((o.cs.drop off).take len).length = len := by simp; omega
      obtain ⟨_, b, cap, rfl, hcase⟩ := h
      obtain ⟨vs, ty, b1, b2, b3, b4, b5⟩ := h3.hp.ob k o hk
      refine ⟨b, cap, (List.range len).map fun i => vs.getD (off + i) undef, by rw [hyl], by rw [hyl]; simp, fun i c hi => ?_, ?_⟩
      · rw [List.getElem?_take] at hi
        split at hi
        · rename_i hlt
          rw [List.getElem?_drop] at hi
          have : ((List.range len).map fun i => vs.getD (off + i) undef).getD i undef = vs.getD (off + i) undef := by simp [hlt]
          rw [this]
          exact b5 _ c hi
        · cases hi
      · rcases hcase with ⟨rfl, _, _⟩ | ⟨rfl, hcap, hg⟩
        · left; simp
        · right
          refine ⟨E.γ k, off, rfl, by rw [hyl]; exact hcap, fun j hj => ?_⟩
          rw [hyl] at hj
          rw [cell_of_row w _ _ vs ty (0, 0) b1]
          have : off + j < vs.size := by omega
          simp [hj, this]
    · cases hc
  | d u =>
    cases u with
    | sl es => exact hCells_repD h hc
    | _ => cases hc
  | full es => exact hCells_repD h.1 hc
  | _ => cases hc

theorem zcell_some (w : World) {e : TypeId} {z : C} (h : zcell P e = some z) : z.hok = true ∧ ∃ i zv, P.info? e = some i ∧ i.zero = some zv ∧ zv.cells.size = 1 ∧ ∀ (W : WSet) (E : Env), RepC w W E z (zv.cells.getD 0 undef) := by
  unfold zcell at h
  split at h
  · rename_i z' hz
    split at h
    · rename_i hk
      simp only [Option.some.injEq] at h
      subst h
      refine ⟨hk, ?_⟩
      unfold tzero at hz
      cases hi : P.info? e with
      | none => simp [hi] at hz
      | some i =>
        cases hzz : i.zero with
        | none => simp [hi, hzz] at hz
        | some zv =>
          simp only [hi, hzz, Option.bind_some] at hz
          have hv := fun (W : WSet) (E : Env) => values_of_cells (w := w) (W := W) (E := E) (.aval zv) hz
          refine ⟨i, zv, rfl, hzz, ?_, fun W E => ?_⟩
          · have := (hv (fun _ _ => False) ⟨0, fun _ => 0, fun _ => none, 0, fun _ => 0, fun _ => 0⟩).1
            simpa using this
          · have := (hv W E).2 0 z' rfl
            rwa [List.getD_eq_getElem?_getD, Array.getElem?_toList, ← Array.getD_eq_getD_getElem?] at this
    · cases h
  · cases h

/-- What has been made anew under the next name. -/
theorem RepSt.hnewv (h : RepSt P x s a w) (o : HO) {w' : World} (gr : Grew w w') (g : Nat) (hg : w.heap.size ≤ g) (vs : Array Value) (t : TypeId) (hb : w'.heap[g]? = some (.cells vs t (0, 0)))
    (hlen : o.cs.length ≤ vs.size) (hex : o.ex = true → o.cs.length = vs.size)
    (hc : ∀ E, RepE P x s w E → (∀ i, RepA w (Wn x s E) E (s.t i) (a.tmps.getD i undef)) → ∀ (i : Nat) (c : C), o.cs[i]? = some c → c.hok = true ∧ RepC w (Wn x s E) E c (vs.getD i undef)) (r : A) (v : Value)
    (hr : ∀ (W : WSet) (E : Env), s.H.length < E.hn → E.γ s.H.length = g → E.gs s.H.length = vs.size → RepA w' W E r v) : RepSV P x (s.hpush o) a w' r v := by
  obtain ⟨h1, h2, E, h3, h4⟩ := h
  obtain ⟨g1, g2⟩ := h3.hnew o gr g hg vs t hb hlen hex (hc E h3 h4)
  refine ⟨h1, h2, E.push g vs.size, g1, fun i => (h4 i).keep g2 (E.le_push g vs.size), hr _ _ ?_ ?_ ?_⟩
  · show s.H.length < E.hn + 1; rw [h3.hp.n]; omega
  · show upd E.γ E.hn g s.H.length = g; rw [h3.hp.n]; simp
  · show upd E.gs E.hn vs.size s.H.length = vs.size; rw [h3.hp.n]; simp

theorem ahMake_sound (h : RepSt P x s a w) {t : TypeId} {l c : Operand} (hK : aheap P s (.makeSlice t l c) K) : OpOK P x s a w (do pure (.value (← Instr.makeSlice t (a.eval l) (a.eval c)))) K := by
  obtain ⟨e, by_, z, kl, kc, n, ⟨he, hs⟩, hby, hz, hl, hc, h0, h63, hb, hK⟩ := hK
  have hu := telem_und he
  obtain ⟨hzk, i, zv, hi, hzv, hzs, hzr⟩ := zcell_some w hz
  obtain ⟨i', hi', hsz⟩ := tsz_info hs
  rw [hi] at hi'
  cases hi'
  have hiby : i.bytes = by_ := by unfold tbytes at hby; simpa [hi] using hby
  subst hiby
  rw [eval_v h hl, eval_v h hc]
  have hrun := run_make (P := P) w t e i zv hu hi hzv kl kc n n h0 (Int.le_refl _) hb h63
  rw [hsz, Nat.mul_one] at hrun
  have hsize : (madeCells zv.cells n.toNat).size = n.toNat := size_madeCells ..
  refine ⟨_, _, _, _, .inl (by simp [hrun]), h.hnewv ⟨List.replicate n.toNat z, true⟩ (Grew.alloc w _) w.heap.size (Nat.le_refl _) (madeCells zv.cells n.toNat) e (heap_alloc_new w _) (by rw [hsize]; simp) (fun _ => by rw [hsize]; simp)
    (fun E _ _ i c hi => ?_) (.one (.hs s.H.length 0 n.toNat)) _ (fun W E hlt hg hgs => .one _ _ ⟨hlt, some ⟨w.heap.size, 0, none⟩, n.toNat, rfl, .inr ⟨by rw [hg], Nat.le_refl _, by simp [hgs, hsize]⟩⟩), hK, rfl⟩
  have hi' : (List.replicate n.toNat z)[i]? = some c := hi
  rw [List.getElem?_replicate] at hi'
  split at hi'
  · rename_i hlt
    simp only [Option.some.injEq] at hi'
    subst hi'
    refine ⟨hzk, ?_⟩
    rw [Array.getD_eq_getD_getElem?, getElem?_madeCells _ _ _ hlt, hzs, Nat.mod_one]
    have := hzr (Wn x s E) E
    have h0 : 0 < zv.cells.size := by omega
    simpa [h0] using this
  · cases hi'

theorem ahAlloc_sound (h : RepSt P x s a w) {e : TypeId} (hK : aheap P s (.alloc e) K) : OpOK P x s a w (do pure (.value (← Instr.alloc e true (.tuple #[])))) K := by
  obtain ⟨z, hs, hz, hK⟩ := hK
  obtain ⟨hzk, i, zv, hi, hzv, hzs, hzr⟩ := zcell_some w hz
  refine ⟨.pointer (some ⟨w.heap.size, 0, none⟩), _, _, _, .inl ?_, h.hnewv ⟨[z], true⟩ (Grew.alloc w (.cells zv.cells e)) w.heap.size (Nat.le_refl _) zv.cells e (heap_alloc_new w _) (by rw [hzs]; simp) (fun _ => by rw [hzs]; simp)
    (fun E _ _ i c hi => ?_) (.one (.hp s.H.length 0)) _ (fun W E hlt hg hgs => .one _ _ ⟨hlt, by rw [hg]⟩), hK, rfl⟩
  · simp [Instr.alloc, zeroValue, typeInfo, hi, hzv, newVar, newRow]
  · have hi' : [z][i]? = some c := hi
    cases i with
    | zero => simp at hi'; subst hi'; exact ⟨hzk, hzr _ _⟩
    | succ i => simp at hi'

theorem ahBox_sound (h : RepSt P x s a w) {e : TypeId} {y : Operand} (hK : aheap P s (.box e y) K) : OpOK P x s a w (do pure (.value (← Instr.box e (a.eval y)))) K := by
  obtain ⟨c, hy, hok, hK⟩ := hK
  have h1c : (a.eval y).cells = #[a.eval y] := by
    obtain ⟨W, E, hr⟩ := evals h y
    rw [hy] at hr
    exact cells_one (one_inv hr).oneCell
  refine ⟨.pointer (some ⟨w.heap.size, 0, none⟩), _, _, _, .inl ?_, h.hnewv ⟨[c], true⟩ (Grew.alloc w (.cells #[a.eval y] e)) w.heap.size (Nat.le_refl _) #[a.eval y] e (heap_alloc_new w _) (by simp) (fun _ => by simp)
    (fun E _ h4 i c' hi => ?_) (.one (.hp s.H.length 0)) _ (fun W E hlt hg hgs => .one _ _ ⟨hlt, by rw [hg]⟩), hK, rfl⟩
  · simp [Instr.box, newVar, newRow, h1c]
  · have hi' : [c][i]? = some c' := hi
    cases i with
    | zero =>
      simp at hi'; subst hi'
      have := aeval_rep h4 y
      rw [hy] at this
      exact ⟨hok, by simpa using one_inv this⟩
    | succ i => simp at hi'

theorem oneCs_some : ∀ {as : List A} {cs : List C}, oneCs as = some cs → as = cs.map A.one ∧ ∀ c ∈ cs, c.hok = true
  | [], cs, h => by simp [oneCs] at h; subst h; simp
  | .one c :: as, cs, h => by
    simp only [oneCs] at h
    split at h
    · rename_i hk
      simp only [Option.map_eq_some_iff] at h
      obtain ⟨cs', h1, rfl⟩ := h
      obtain ⟨h2, h3⟩ := oneCs_some h1
      refine ⟨by rw [h2]; rfl, fun c' hc' => ?_⟩
      rcases List.mem_cons.1 hc' with rfl | hc'
      · exact hk
      · exact h3 c' hc'
    · cases h
  | .agg _ :: _, _, h => by simp [oneCs] at h
  | .tup _ :: _, _, h => by simp [oneCs] at h
  | .any :: _, _, h => by simp [oneCs] at h

theorem ahBuildSlice_sound (h : RepSt P x s a w) {t : TypeId} {len : Nat} {parts : Array (Nat × Operand)} (hK : aheap P s (.buildSlice t len parts) K) :
    OpOK P x s a w (do pure (.value (← Instr.buildSlice t len (parts.map fun p => (p.1, a.eval p.2))))) K := by
  obtain ⟨e, cs, ⟨he, hs⟩, hz, hlen, hidx, hcs, hK⟩ := hK
  have hu := telem_und he
  obtain ⟨z, hz⟩ := Option.isSome_iff_exists.1 hz
  obtain ⟨hzk, i, zv, hi, hzv, hzs, hzr⟩ := zcell_some w hz
  obtain ⟨hcs1, hcs2⟩ := oneCs_some hcs
  have hpl : parts.size = len := by have := congrArg List.length hidx; simpa using this
  have hcl : cs.length = len := by have := congrArg List.length hcs1; simp at this; omega
  let vals := (parts.map fun p => (p.1, a.eval p.2)).toList
  have hvl : vals.length = len := by simp [vals, hpl]
  have hvidx : vals.map (·.1) = List.range' 0 vals.length := by
    rw [hvl, ← List.range_eq_range', ← hidx]; simp [vals]
  have hvat : ∀ E, (∀ i, RepA w (Wn x s E) E (s.t i) (a.tmps.getD i undef)) → ∀ (k : Nat) (c : C), cs[k]? = some c → ∃ p, vals[k]? = some p ∧ RepC w (Wn x s E) E c p.2 := by
    intro E h4 k c hk
    have : (parts.toList.map fun p => aeval s p.2)[k]? = some (.one c) := by rw [hcs1, List.getElem?_map, hk]; rfl
    simp only [List.getElem?_map, Option.map_eq_some_iff] at this
    obtain ⟨p, hp, hpe⟩ := this
    refine ⟨(p.1, a.eval p.2), by simp only [vals, Array.toList_map, List.getElem?_map, hp]; rfl, ?_⟩
    have := aeval_rep h4 p.2
    rw [hpe] at this
    exact one_inv this
  have hvsz : ∀ p ∈ vals, p.2.cells = #[p.2] := by
    intro p hp
    obtain ⟨_, _, E, _, h4⟩ := h
    obtain ⟨k, hk, rfl⟩ := List.getElem_of_mem hp
    have hkl : k < cs.length := by omega
    obtain ⟨q, hq, hqs⟩ := hvat E h4 k _ (List.getElem?_eq_getElem hkl)
    rw [List.getElem?_eq_getElem hk] at hq
    cases hq
    exact cells_one hqs.oneCell
  generalize hz0 : ((Array.range (len * 1)).map (zv.cells[· % zv.cells.size]!)) = cells0
  have hc0 : cells0.size = len * 1 := by rw [← hz0]; simp
  obtain ⟨cells', hf, hl'⟩ := fill_seq 1 vals 0 [] cells0 hvidx (fun p hp => by rw [hvsz p hp]; rfl) (by simp) (by rw [hvl, hc0]; omega)
  have hfl : cells'.toList = vals.map (·.2) := by
    rw [hl', hvl, List.drop_of_length_le (by simp [hc0])]
    simp only [List.nil_append, List.append_nil]
    rw [List.flatMap_def]
    have : vals.map (fun p => p.2.cells.toList) = vals.map fun p => [p.2] := List.map_congr_left fun p hp => by rw [hvsz p hp]
    rw [this]
    clear this
    induction vals with
    | nil => rfl
    | cons p l ih => simpa using ih
  have hcsz : cells'.size = len := by rw [← Array.length_toList, hfl, List.length_map, hvl]
  have hrun : (Instr.buildSlice t len (parts.map fun p => (p.1, a.eval p.2))).run P w = .ok (.slice (some ⟨w.heap.size, 0, none⟩) len len) (w.alloc (.cells cells' e)) := by
    by_cases hzz : len * 1 = 0
    · have hem : (Array.range (len * 1)).map ((#[] : Array Value)[· % (#[] : Array Value).size]!) = cells0 := by
        apply Array.ext
        · simp [hc0]
        · intro k hk1 _; simp [hzz] at hk1
      simp only [Instr.buildSlice, Sem.run_bind, run_underlying hu, Result.andThen_ok, run_sizeOf hs]
      rw [if_neg (by omega)]
      simp only [hzz, if_true, Sem.run_pure, Result.andThen_ok, Sem.run_bind]
      rw [hzz] at hem
      rw [hem]
      simp [vals] at hf
      simp [hf, newRow]
    · simp only [Instr.buildSlice, Sem.run_bind, run_underlying hu, Result.andThen_ok, run_sizeOf hs]
      rw [if_neg (by omega)]
      simp only [hzz, if_false, Sem.run_pure, Result.andThen_ok, Sem.run_bind, zeroValue, typeInfo, run_program, hi, hzv, hz0]
      simp [vals] at hf
      simp [hf, newRow]
  refine ⟨_, _, _, _, .inl (by simp [hrun]), h.hnewv ⟨cs, true⟩ (Grew.alloc w _) w.heap.size (Nat.le_refl _) cells' e (heap_alloc_new w _) (by rw [hcsz]; exact Nat.le_of_eq hcl) (fun _ => by rw [hcsz]; exact hcl)
    (fun E _ h4 i c hi => ?_) (.one (.hs s.H.length 0 len)) _ (fun W E hlt hg hgs => .one _ _ ⟨hlt, some ⟨w.heap.size, 0, none⟩, len, rfl, .inr ⟨by rw [hg], Nat.le_refl _, by simp [hgs, hcsz]⟩⟩), hK, rfl⟩
  have hi' : cs[i]? = some c := hi
  obtain ⟨p, hp, hpr⟩ := hvat E h4 i c hi'
  refine ⟨hcs2 c (List.mem_of_getElem? hi'), ?_⟩
  have : cells'.getD i undef = p.2 := by
    rw [Array.getD_eq_getD_getElem?, ← Array.getElem?_toList, hfl, List.getElem?_map, hp]; rfl
  rw [this]; exact hpr

theorem ahNilCheck_sound (h : RepSt P x s a w) {y : Operand} {k off : Nat} (hy : aeval s y = .one (.hp k off)) (hK : K (.one (.hp k off)) s) {o : Oper}
    (ho : o.op = .nilCheck y) : OpOK P x s a w (execOp a.eval o) K := by
  obtain ⟨h1, h2, E, h3, h4⟩ := h
  have hv := aeval_rep h4 y
  rw [hy] at hv
  obtain ⟨hk, hval⟩ := one_inv hv
  refine ⟨.pointer (some ⟨E.γ k, off, none⟩), w, _, s, .inl ?_, ⟨h1, h2, E, h3, h4, .one (.hp k off) _ ⟨hk, rfl⟩⟩, hK, rfl⟩
  unfold execOp
  simp only [ho, hval]
  rfl

end sound
end Go.Av
