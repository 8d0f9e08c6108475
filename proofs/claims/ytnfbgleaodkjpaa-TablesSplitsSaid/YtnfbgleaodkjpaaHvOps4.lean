/-
  Composite literals, calls, and the one function that says what an operation does to an abstract state. Over any program. No toy.
-/
import Derived.Test.YtnfbgleaodkjpaaHvOps3
set_option linter.all false
namespace Go.Av
open Go.RowKit

/-- The places of a struct's fields: offset and size. -/
def tstruct (P : Program) (t : TypeId) : Option (List (Nat × Nat)) :=
  match P.underlying t with
  | some (.struct fs) => fs.toList.mapM fun f => (tsz P f.type).map fun z => (f.offset, z)
  | _ => none

theorem tstruct_und {P : Program} {t : TypeId} {l : List (Nat × Nat)} (h : tstruct P t = some l) : ∃ fs, P.underlying t = some (.struct fs) ∧ fs.toList.mapM (fun f => (tsz P f.type).map fun z => (f.offset, z)) = some l := by
  unfold tstruct at h
  split at h
  · rename_i fs he; exact ⟨fs, he, h⟩
  · cases h

theorem run_mapM_places {P : Program} (w : World) : ∀ (l : List Field) (ps : List (Nat × Nat)), l.mapM (fun f => (tsz P f.type).map fun z => (f.offset, z)) = some ps →
    (l.mapM (fun f => do pure (f.offset, ← sizeOf f.type) : Field → Sem (Nat × Nat))).run P w = .ok ps w
  | [], ps, h => by simp at h; subst h; rfl
  | f :: l, ps, h => by
    simp only [List.mapM_cons, Option.bind_eq_bind, Option.pure_def] at h
    cases hz : tsz P f.type with
    | none => simp [hz] at h
    | some z =>
      cases hl : l.mapM (fun f => (tsz P f.type).map fun z => (f.offset, z)) with
      | none => simp [hl] at h
      | some ps' =>
        simp only [hz, hl, Option.map_some, Option.bind_some, Option.some.injEq] at h
        subst h
        simp only [List.mapM_cons, Sem.run_bind, run_sizeOf hz, Result.andThen_ok, Sem.run_pure, run_mapM_places w l ps' hl]

section ops
variable (P : Program) (s : St)

def lowCells (r : A) : Option (List D) := r.cells.bind fun cs => cs.mapM low

def aBuild (t : TypeId) (parts : Array (Nat × Operand)) (K : A → St → Prop) : Prop :=
  match tzero P t with
  | some z => (match tstruct P t with
    | some ps => (match aFill (ps[·]?) z (parts.toList.map fun p => (p.1, aeval s p.2)) with | some cs => K (.agg cs) s | none => False)
    | none => (match tarr P t with
      | some (_, e) => (match tsz P e with
        | some sz => (match aFill (fun i => some (i * sz, sz)) z (parts.toList.map fun p => (p.1, aeval s p.2)) with | some cs => K (.agg cs) s | none => False)
        | none => False)
      | none => False))
  | none => False

def aBuildSlice (t : TypeId) (len : Nat) (parts : Array (Nat × Operand)) (K : A → St → Prop) : Prop :=
  match telem P t with
  | some e => (match tsz P e, tzero P e with
    | some sz, some z => z.length = sz ∧ len * sz ≤ 16777216 ∧ parts.toList.map (·.1) = List.range len ∧ (match parts.toList.mapM fun p => lowCells (aeval s p.2) with
      | some es => (∀ c ∈ es, c.length = sz) ∧ K (.one (.full es)) s
      | none => False)
    | _, _ => False)
  | none => False

end ops

section sound
variable {P : Program} {x : Ent} {s : St} {a : Act} {w : World} {K : A → St → Prop}

theorem parts_rep {W : WSet} {E : Env} (h4 : ∀ i, RepA w W E (s.t i) (a.tmps.getD i undef)) (parts : Array (Nat × Operand)) :
    ∀ (k i j : Nat) (r : A) (v : Value), (parts.toList.map fun p => (p.1, aeval s p.2))[k]? = some (i, r) → ((parts.map fun p => (p.1, a.eval p.2)).toList)[k]? = some (j, v) → i = j ∧ RepA w W E r v := by
  intro k i j r v h1 h2
  simp only [List.getElem?_map, Option.map_eq_some_iff, Array.toList_map] at h1 h2
  obtain ⟨p, hp, he⟩ := h1
  obtain ⟨q, hq, he'⟩ := h2
  rw [hp] at hq
  cases hq
  simp only [Prod.mk.injEq] at he he'
  obtain ⟨rfl, rfl⟩ := he
  obtain ⟨rfl, rfl⟩ := he'
  exact ⟨rfl, aeval_rep h4 _⟩

theorem zero_of {t : TypeId} {z : List C} (h : tzero P t = some z) : ∃ i v, P.info? t = some i ∧ i.zero = some v ∧ ∀ (W : WSet) (E : Env), v.cells.size = z.length ∧ ∀ (k : Nat) (c : C), z[k]? = some c → RepC w W E c (v.cells.getD k undef) := by
  unfold tzero at h
  cases hi : P.info? t with
  | none => simp [hi] at h
  | some i =>
    cases hz : i.zero with
    | none => simp [hi, hz] at h
    | some v =>
      simp only [hi, hz, Option.bind_some] at h
      refine ⟨i, v, rfl, hz, fun W E => ?_⟩
      obtain ⟨h1, h2⟩ := values_of_cells (w := w) (W := W) (E := E) (.aval v) h
      refine ⟨by simpa using h1, fun k c hk => ?_⟩
      have := h2 k c hk
      rwa [List.getD_eq_getElem?_getD, Array.getElem?_toList, ← Array.getD_eq_getD_getElem?] at this

theorem aBuild_sound (h : RepSt P x s a w) {t : TypeId} {parts : Array (Nat × Operand)} (hK : aBuild P s t parts K) :
    OpOK P x s a w (do pure (.value (← Instr.build t (parts.map fun p => (p.1, a.eval p.2))))) K := by
  unfold aBuild at hK
  split at hK
  · rename_i z hz
    obtain ⟨i, zv, hi, hzv, hzr⟩ := zero_of (w := w) hz
    obtain ⟨h1, h2, E, h3, h4⟩ := id h
    obtain ⟨hzs, hzc⟩ := hzr (Wn x s E) E
    have close : ∀ (place : Nat → Option (Nat × Nat)) (cs : List C), aFill place z (parts.toList.map fun p => (p.1, aeval s p.2)) = some cs → K (.agg cs) s →
        (∀ cells', Instr.fill place zv.cells (parts.map fun p => (p.1, a.eval p.2)).toList = some cells' → (Instr.build t (parts.map fun p => (p.1, a.eval p.2))).run P w = .ok (.agg cells') w) →
        OpOK P x s a w (do pure (.value (← Instr.build t (parts.map fun p => (p.1, a.eval p.2))))) K := by
      intro place cs hf hk hrun
      obtain ⟨cells', hf', hs', hr'⟩ := fill_sound (w := w) (W := Wn x s E) (E := E) place _ (parts.map fun p => (p.1, a.eval p.2)).toList z zv.cells cs (by simp) (parts_rep h4 parts) hzs hzc hf
      refine ⟨.agg cells', w, _, s, .inl (by simp [hrun cells' hf']), ⟨h1, h2, E, h3, h4, ?_⟩, hk, rfl⟩
      have : cells' = cells'.toList.toArray := by simp
      rw [this]
      refine .agg _ _ (by simpa using hs') fun k c hk => ?_
      have := hr' k c hk
      rwa [Array.getD_eq_getD_getElem?, ← Array.getElem?_toList, ← List.getD_eq_getElem?_getD] at this
    split at hK
    · rename_i ps hps
      obtain ⟨fs, hu, hm⟩ := tstruct_und hps
      split at hK
      · rename_i cs hcs
        refine close _ cs hcs hK fun cells' hf => ?_
        have hmr := run_mapM_places w fs.toList ps hm
        have hma : (fs.mapM (fun f => do pure (f.offset, ← sizeOf f.type) : Field → Sem (Nat × Nat))).run P w = .ok ps.toArray w := by
          rw [Array.mapM_eq_mapM_toList, Sem.run_map, hmr]; rfl
        have hfun : (fun (k : Nat) => ps.toArray[k]?) = (fun (k : Nat) => ps[k]?) := by funext k; simp
        simp only [Instr.build, Sem.run_bind, zeroValue, typeInfo, run_program, Result.andThen_ok, hi, Sem.run_pure, hzv, run_underlying hu, hma, hfun, hf]
      · exact hK.elim
    · split at hK
      · rename_i n e hte
        have hu := tarr_und hte
        split at hK
        · rename_i sz hs
          split at hK
          · rename_i cs hcs
            refine close _ cs hcs hK fun cells' hf => ?_
            simp only [Instr.build, Sem.run_bind, zeroValue, typeInfo, run_program, Result.andThen_ok, hi, Sem.run_pure, hzv, run_underlying hu, run_sizeOf hs, hf]
          · exact hK.elim
        · exact hK.elim
      · exact hK.elim
  · exact hK.elim

theorem low_all {W : WSet} {E : Env} {v : Value} {r : A} {ds : List D} (h : RepA w W E r v) (hl : lowCells r = some ds) : v.cells.size = ds.length ∧ ∀ (k : Nat) (d : D), ds[k]? = some d → RepD w W d (v.cells.getD k undef) := by
  unfold lowCells at hl
  cases hc : r.cells with
  | none => simp [hc] at hl
  | some cs =>
    simp only [hc, Option.bind_some] at hl
    obtain ⟨h1, h2⟩ := h.cells hc
    have key : ∀ (cs : List C) (ds : List D), cs.mapM low = some ds → ds.length = cs.length ∧ ∀ (k : Nat) (d : D), ds[k]? = some d → ∃ c, cs[k]? = some c ∧ low c = some d := by
      intro cs
      induction cs with
      | nil => intro ds h; simp at h; subst h; simp
      | cons c cs ih =>
        intro ds h
        simp only [List.mapM_cons, Option.bind_eq_bind, Option.pure_def] at h
        cases hd : low c with
        | none => simp [hd] at h
        | some d =>
          cases hds : cs.mapM low with
          | none => simp [hds] at h
          | some ds' =>
            simp only [hd, hds, Option.bind_some, Option.some.injEq] at h
            subst h
            obtain ⟨i1, i2⟩ := ih ds' hds
            refine ⟨by simp [i1], fun k d' hk => ?_⟩
            cases k with
            | zero => simp at hk; subst hk; exact ⟨c, rfl, hd⟩
            | succ k => simpa using i2 k d' (by simpa using hk)
    obtain ⟨k1, k2⟩ := key cs ds hl
    refine ⟨by rw [h1, k1], fun k d hk => ?_⟩
    obtain ⟨c, hc1, hc2⟩ := k2 k d hk
    obtain ⟨u, hu1, hu2⟩ := h2 k c hc1
    rw [Array.getD_eq_getD_getElem?, hu1]
    exact hu2.low hc2

theorem fill_seq (sz : Nat) : ∀ (vals : List (Nat × Value)) (n : Nat) (pre : List Value) (cells : Array Value), vals.map (·.1) = List.range' n vals.length → (∀ p ∈ vals, p.2.cells.size = sz) →
    cells.toList.take (n * sz) = pre → n * sz + vals.length * sz ≤ cells.size →
    ∃ cells', Instr.fill (fun i => some (i * sz, sz)) cells vals = some cells' ∧ cells'.toList = pre ++ (vals.flatMap fun p => p.2.cells.toList) ++ cells.toList.drop (n * sz + vals.length * sz)
  | [], n, pre, cells, _, _, hpre, _ => by
    refine ⟨cells, rfl, ?_⟩
    subst hpre
    simp
  | (j, v) :: vals, n, pre, cells, hidx, hsz, hpre, hle => by
    simp only [List.map_cons, List.length_cons, List.range'_succ, List.cons.injEq] at hidx
    obtain ⟨rfl, hidx⟩ := hidx
    have hv : v.cells.size = sz := hsz _ (List.mem_cons_self ..)
    simp only [List.length_cons, Nat.succ_mul] at hle
    unfold Instr.fill
    simp only []
    rw [if_neg (by simp [hv]; omega)]
    have hfold : (v.cells.zipIdx.foldl (fun cs (p : Value × Nat) => cs.setIfInBounds (j * sz + p.2) p.1) cells).toList = rpl cells.toList (j * sz) v.cells.toList := by
      have := foldl_rpl (j * sz) v.cells.toList 0 cells (by simp [hv]; omega)
      rw [Nat.add_zero] at this
      rw [← this, ← Array.foldl_toList]
      simp
    generalize hc1 : v.cells.zipIdx.foldl (fun cs (p : Value × Nat) => cs.setIfInBounds (j * sz + p.2) p.1) cells = cells1 at *
    have hl1 : cells1.size = cells.size := by rw [← Array.length_toList, hfold, length_rpl _ _ _ (by simp [hv]; omega)]; simp
    have htake : cells1.toList.take ((j + 1) * sz) = pre ++ v.cells.toList := by
      rw [hfold]; subst hpre
      unfold rpl
      have : ((cells.toList.take (j * sz)) ++ v.cells.toList).length = (j + 1) * sz := by simp [hv, Nat.succ_mul]; omega
      rw [← this, List.take_left']; rfl
    obtain ⟨cells', hf, hl'⟩ := fill_seq sz vals (j + 1) (pre ++ v.cells.toList) cells1 hidx (fun p hp => hsz p (List.mem_cons_of_mem _ hp)) htake (by rw [hl1, Nat.succ_mul]; omega)
    refine ⟨cells', hf, ?_⟩
    rw [hl', List.flatMap_cons, List.length_cons, Nat.succ_mul, Nat.succ_mul]
    have hd : cells1.toList.drop (j * sz + sz + vals.length * sz) = cells.toList.drop (j * sz + (vals.length * sz + sz)) := by
      rw [hfold]
      unfold rpl
      have : ((cells.toList.take (j * sz)) ++ v.cells.toList).length = j * sz + sz := by simp [hv]; omega
      rw [← List.drop_drop, List.drop_left' this, List.drop_drop]
      congr 1
      simp [hv]; omega
    rw [hd]
    simp [List.append_assoc]

theorem rel_flat {R : D → Value → Prop} : ∀ (es : List (List D)) (vals : List (Nat × Value)), es.length = vals.length →
    (∀ (k : Nat) (c : List D), es[k]? = some c → ∃ p, vals[k]? = some p ∧ p.2.cells.size = c.length ∧ ∀ (j : Nat) (d : D), c[j]? = some d → R d (p.2.cells.getD j undef)) →
    es.flatten.length = (vals.flatMap fun p => p.2.cells.toList).length ∧ ∀ (k : Nat) (d : D), es.flatten[k]? = some d → R d ((vals.flatMap fun p => p.2.cells.toList).getD k undef)
  | [], [], _, _ => by simp
  | c :: es, p :: vals, hl, h => by
    obtain ⟨q, hq, hs, hr⟩ := h 0 c rfl
    simp at hq; subst hq
    obtain ⟨i1, i2⟩ := rel_flat es vals (by simpa using hl) (fun k c hk => by simpa using h (k + 1) c (by simpa using hk))
    refine ⟨by simp [hs] at i1 ⊢; omega, fun k d hk => ?_⟩
    rw [List.flatten_cons, List.getElem?_append] at hk
    rw [List.flatMap_cons, List.getD_eq_getElem?_getD, List.getElem?_append]
    have hll : p.2.cells.toList.length = c.length := by simpa using hs
    rw [hll]
    split at hk
    · rename_i hlt
      rw [if_pos hlt, Array.getElem?_toList, ← Array.getD_eq_getD_getElem?]
      exact hr k d hk
    · rename_i hlt
      rw [if_neg hlt, ← List.getD_eq_getElem?_getD]
      exact i2 _ d hk
  | [], _ :: _, h, _ => by simp at h
  | _ :: _, [], h, _ => by simp at h

theorem aBuildSlice_sound (hx : x.ok) (h : RepSt P x s a w) {t : TypeId} {len : Nat} {parts : Array (Nat × Operand)} (hK : aBuildSlice P s t len parts K) :
    OpOK P x s a w (do pure (.value (← Instr.buildSlice t len (parts.map fun p => (p.1, a.eval p.2))))) K := by
  unfold aBuildSlice at hK
  split at hK
  · rename_i e he
    have hu := telem_und he
    split at hK
    · rename_i sz z hs hz
      obtain ⟨hzl, hlen, hidx, hK⟩ := hK
      split at hK
      · rename_i es hes
        obtain ⟨hel, hK⟩ := hK
        obtain ⟨i, zv, hi, hzv, hzr⟩ := zero_of (w := w) hz
        have hzs : zv.cells.size = sz := by rw [(hzr (fun _ _ => False) x.E0).1, hzl]
        have hpl : parts.size = len := by have := congrArg List.length hidx; simpa using this
        -- the parts, one by one
        have hparts : es.length = parts.toList.length ∧ ∀ (k : Nat) (c : List D), es[k]? = some c → ∃ p, parts.toList[k]? = some p ∧ lowCells (aeval s p.2) = some c := by
          have key : ∀ (l : List (Nat × Operand)) (es : List (List D)), l.mapM (fun p => lowCells (aeval s p.2)) = some es → es.length = l.length ∧ ∀ (k : Nat) (c : List D), es[k]? = some c → ∃ p, l[k]? = some p ∧ lowCells (aeval s p.2) = some c := by
            intro l
            induction l with
            | nil => intro es h; simp at h; subst h; simp
            | cons p l ih =>
              intro es h
              simp only [List.mapM_cons, Option.bind_eq_bind, Option.pure_def] at h
              cases hd : lowCells (aeval s p.2) with
              | none => simp [hd] at h
              | some d =>
                cases hds : l.mapM (fun p => lowCells (aeval s p.2)) with
                | none => simp [hds] at h
                | some ds' =>
                  simp only [hd, hds, Option.bind_some, Option.some.injEq] at h
                  subst h
                  obtain ⟨i1, i2⟩ := ih ds' hds
                  refine ⟨by simp [i1], fun k d' hk => ?_⟩
                  cases k with
                  | zero => simp at hk; subst hk; exact ⟨p, rfl, hd⟩
                  | succ k => simpa using i2 k d' (by simpa using hk)
          exact key _ _ hes
        have hesl : es.length = len := by rw [hparts.1]; simpa using hpl
        obtain ⟨h1, h2, E, h3, h4⟩ := id h
        let vals := (parts.map fun p => (p.1, a.eval p.2)).toList
        have hvl : vals.length = len := by simp [vals, hpl]
        have hvidx : vals.map (·.1) = List.range' 0 vals.length := by
          rw [hvl, ← List.range_eq_range', ← hidx]; simp [vals]
        have hvat : ∀ (k : Nat) (c : List D), es[k]? = some c → ∃ p, vals[k]? = some p ∧ p.2.cells.size = c.length ∧ ∀ (j : Nat) (d : D), c[j]? = some d → RepD w (Wn x s E) d (p.2.cells.getD j undef) := by
          intro k c hk
          obtain ⟨p, hp, hlow⟩ := hparts.2 k c hk
          refine ⟨(p.1, a.eval p.2), by simp only [vals, Array.toList_map, List.getElem?_map, hp]; rfl, ?_⟩
          exact low_all (aeval_rep h4 p.2) hlow
        have hvsz : ∀ p ∈ vals, p.2.cells.size = sz := by
          intro p hp
          obtain ⟨k, hk, rfl⟩ := List.getElem_of_mem hp
          have hkl : k < es.length := by omega
          obtain ⟨q, hq, hqs, _⟩ := hvat k _ (List.getElem?_eq_getElem hkl)
          rw [List.getElem?_eq_getElem hk] at hq
          cases hq
          rw [hqs]; exact hel _ (List.getElem_mem hkl)
        generalize hz0 : ((Array.range (len * sz)).map (zv.cells[· % zv.cells.size]!)) = cells0
        have hc0 : cells0.size = len * sz := by rw [← hz0]; simp
        obtain ⟨cells', hf, hl'⟩ := fill_seq sz vals 0 [] cells0 hvidx hvsz (by simp) (by rw [hvl, hc0]; omega)
        have hfl : cells'.toList = vals.flatMap fun p => p.2.cells.toList := by
          rw [hl', hvl, List.drop_of_length_le (by simp [hc0])]; simp
        have hrun : (Instr.buildSlice t len (parts.map fun p => (p.1, a.eval p.2))).run P w = .ok (.slice (some ⟨w.heap.size, 0, none⟩) len len) (w.alloc (.cells cells' e)) := by
          by_cases hzz : len * sz = 0
          · have hem : (Array.range (len * sz)).map ((#[] : Array Value)[· % (#[] : Array Value).size]!) = cells0 := by
              apply Array.ext
              · simp [hc0]
              · intro k hk1 _; simp [hzz] at hk1
            simp only [Instr.buildSlice, Sem.run_bind, run_underlying hu, Result.andThen_ok, run_sizeOf hs]
            rw [if_neg (by omega)]
            simp only [hzz, if_true, Sem.run_pure, Result.andThen_ok, Sem.run_bind]
            rw [hzz] at hem
            rw [hem]
            simp [vals] at hf
            simp [hf, newRow]
          · simp only [Instr.buildSlice, Sem.run_bind, run_underlying hu, Result.andThen_ok, run_sizeOf hs]
            rw [if_neg (by omega)]
            simp only [hzz, if_false, Sem.run_pure, Result.andThen_ok, Sem.run_bind, zeroValue, typeInfo, run_program, hi, hzv, hz0]
            simp [vals] at hf
            simp [hf, newRow]
        have gr := Grew.alloc w (.cells cells' e)
        have hst := h.grew gr
        have hrel := rel_flat (R := fun d u => RepD w (Wn x s E) d u) es vals (by omega) hvat
        refine ⟨_, _, .one (.full es), s, .inl (by simp [hrun]; rfl), ⟨h1, h2, E, h3.grew gr, fun i => (h4 i).keep (gr.keeps _) (.refl E), .one _ _ ⟨?_, _, by rw [hesl]⟩⟩, hK, rfl⟩
        by_cases hnil : es = []
        · subst hnil
          have : len = 0 := by simpa using hesl.symm
          subst this
          exact RepD.nil _ _
        · rw [← hesl]
          have hfe := length_flat hel
          refine RepD.sl es sz w.heap.size 0 es.length (fun k => cells'.getD k undef) hel (Nat.le_refl _) (fun k hk => ?_) (fun k c hk => ?_)
          · have hkl : k < cells'.size := by rw [← Array.length_toList, hfl, ← hrel.1]; exact hk
            rw [Nat.zero_add]
            refine ⟨?_, fun hW => ?_⟩
            · rw [World.cell?_alloc_new]; simp [hkl]
            · rcases hW with hW | hW
              · have := hx.wf _ _ hW; have := h3.fr.size; omega
              · have := h3.own_lt hW; omega
          · have := hrel.2 k c hk
            rw [← hfl, List.getD_eq_getElem?_getD, Array.getElem?_toList, ← Array.getD_eq_getD_getElem?] at this
            exact this.keep (gr.keeps _)
      · exact hK.elim
    · exact hK.elim
  · exact hK.elim

end sound
end Go.Av
