/-
  What code does to an abstract state: operations in sequence, branches, blocks, loops, calls. Over any program. No toy.
-/
import Derived.Test.YtnfbgleaodkjpaaHvOpsJ
set_option linter.all false
namespace Go.Av
open Go.RowKit

def E0 : Env := { n := 0, β := fun _ => 0, τ := fun _ => none, hn := 0, γ := fun _ => 0, gs := fun _ => 0 }

/-- A function with a body of its own. -/
def FnOK (P : Program) (f : FuncId) : Prop := ∃ fn, P.funcs[f]? = some fn ∧ (fn.name == "runtime.NumGoroutine") = false ∧ fn.body.isNone = false

/-- A call made in a state: it returns, and the state behind it is one that K takes. -/
structure ACall (P : Program) (f : FuncId) (args : List A) (s : St) (K : A → St → Prop) : Prop where
  ok : FnOK P f
  out : ∀ (x : Ent) (a : Act) (w : World) (vs : Array Value), x.ok → RepSt P x s a w → vs.size = args.length →
    (∀ W E, (∀ i, RepA w W E (s.t i) (a.tmps.getD i undef)) → ∀ (k : Nat) (r : A), args[k]? = some r → RepA w W E r (vs.getD k undef)) →
    Calls P f vs w fun e w' => ∃ v r s', e = .returned v ∧ RepSV P x s' a w' r v ∧ K r s' ∧ s'.m = s.m

def aCallee (s : St) (f : Operand) : Option (FuncId × List A) :=
  match aeval s f with
  | .one (.d (.clo g caps)) => some (g, caps.map fun d => .one (.d d))
  | .one (.clo g ids) => some (g, ids.map fun id => .one (.ref id 0))
  | .one (.hclo g ks) => some (g, ks.map fun k => .one (.hp k 0))
  | _ => none

/-- What one operation does. -/
def aop0 (P : Program) (s : St) (o : Op) (K : A → St → Prop) : Prop :=
  match o with
  | .move x => K (aeval s x) s
  | .assign x => K (aeval s x) s
  | .pick c p q => (match aeval s c with | .one (.d (.v (.bool b))) => (b = true → K (aeval s p) s) ∧ (b = false → K (aeval s q) s) | _ => False)
  | .alloc e => aAlloc P s e K
  | .box _ y => aBox s y K
  | .build t parts => aBuild P s t parts K
  | .buildSlice t len parts => aBuildSlice P s t len parts K
  | .load t y => aLoad P s t y K
  | .store t y z => aStore P s t y z K
  | .binOp op t y z _ => aBin P s op t y z K
  | .unOp op _ y => aUn s op y K
  | .convert t1 t2 y => aConvert P s t1 t2 y K
  | .makeFunc fn first captured => aMakeFunc s fn first captured K
  | .makeSlice t l c => aMake P s t l c K
  | .slice t y lo hi mx => aSlice P s t y lo hi mx K
  | .fieldAddr t y i => aFieldAddr P s t y i K
  | .field t y i => aField P s t y i K
  | .indexAddr t y ix => aIndexAddr P s t y ix K
  | .index t y ix => aIndex P s t y ix K
  | .extract y i => aExtract s y i K
  | .range t y => aRange P s t y K
  | .next y b => aNext s y b K
  | .makeMap _ r => aMakeMap s r K
  | .lookup t y ix ok => aLookup P s t y ix ok K
  | .mapUpdate t y ix v => aMapUpdate P s t y ix v K
  | .call c => (match c.callee with
    | .value f => (match aCallee s f with
      | some (g, caps) => ACall P g (c.args.toList.map (aeval s) ++ caps) s K
      | none => False)
    | .builtin b => (match b, c.args.toList, c.argTypes.toList with
      | .len, [y], [t] => aLen P s t y K
      | .append, [y, z], [t, t'] => t' = t ∧ aAppend P s t y z K
      | .min, [y, z], _ => aMin s true y z K
      | .max, [y, z], _ => aMin s false y z K
      | _, _, _ => False)
    | _ => False)
  | _ => False

theorem upon_of_ok {P : Program} {x : Ent} {s : St} {a : Act} {w : World} {m : Sem Next} {K : A → St → Prop} (h : OpOK P x s a w m K) {o : Oper} {next : Act → World → Prop} {Q : Exit → Act → World → Prop}
    (hn : ∀ r s' v w', RepSV P x s' a w' r v → K r s' → s'.m = s.m → next (a.put o.dst v) w') : o.upon P a next Q (m.run P w) := by
  obtain ⟨v, w', r, s', hrun, hrep, hk, hm⟩ := h
  rcases hrun with hrun | ⟨hrun, rfl⟩
  · rw [hrun]; exact hn r s' v w' hrep hk hm
  · rw [hrun]; exact hn r s' _ w' hrep hk hm

theorem aop0_sound {P : Program} {x : Ent} (hx : x.ok) {s : St} {a : Act} {w : World} (h : RepSt P x s a w) {o : Oper} {K : A → St → Prop} (hK : aop0 P s o.op K) {next : Act → World → Prop} {Q : Exit → Act → World → Prop}
    (hn : ∀ r s' v w', RepSV P x s' a w' r v → K r s' → s'.m = s.m → next (a.put o.dst v) w') : o.wp P a w next Q := by
  unfold Oper.wp
  have go : ∀ m : Sem Next, execOp a.eval o = m → OpOK P x s a w m K → o.upon P a next Q ((execOp a.eval o).run P w) := fun m hm hok => by rw [hm]; exact upon_of_ok hok hn
  unfold aop0 at hK
  split at hK
  case _ y ho => exact go _ (by unfold execOp; rw [ho]) (OpOK.pure h (by rfl) (fun _ _ h4 => aeval_rep h4 y) hK)
  case _ y ho => exact go _ (by unfold execOp; rw [ho]) (OpOK.pure h (by rfl) (fun _ _ h4 => aeval_rep h4 y) hK)
  case _ c p q ho =>
    split at hK
    · rename_i b hb
      refine go (do pure (.value (if ← asBool (a.eval c) then a.eval p else a.eval q))) (by unfold execOp; rw [ho]) ?_
      rw [eval_v h hb]
      cases b with
      | true => exact OpOK.pure h (v := a.eval p) (by simp [asBool]) (fun _ _ h4 => aeval_rep h4 p) (hK.1 rfl)
      | false => exact OpOK.pure h (v := a.eval q) (by simp [asBool]) (fun _ _ h4 => aeval_rep h4 q) (hK.2 rfl)
    · exact hK.elim
  case _ e ho => exact go _ (by unfold execOp; rw [ho]) (aAlloc_sound hx h hK)
  case _ e y ho => exact go _ (by unfold execOp; rw [ho]) (aBox_sound hx h hK)
  case _ t parts ho => exact go _ (by unfold execOp; rw [ho]) (aBuild_sound h hK)
  case _ t len parts ho => exact go _ (by unfold execOp; rw [ho]) (aBuildSlice_sound hx h hK)
  case _ t y ho => exact go _ (by unfold execOp; rw [ho]) (aLoad_sound h hK)
  case _ t y z ho => exact go _ (by unfold execOp; rw [ho]) (aStore_sound hx h hK)
  case _ op t y z t2 ho => exact go _ (by unfold execOp; rw [ho]) (aBin_sound h hK)
  case _ op t y ho => exact go _ (by unfold execOp; rw [ho]) (aUn_sound h hK)
  case _ t1 t2 y ho => exact go _ (by unfold execOp; rw [ho]) (aConvert_sound h hK)
  case _ fn first captured ho => exact go _ (by unfold execOp; rw [ho]) (aMakeFunc_sound h hK)
  case _ t l c ho => exact go _ (by unfold execOp; rw [ho]) (aMake_sound hx h hK)
  case _ t y lo hi mx ho => exact go _ (by unfold execOp; rw [ho]) (aSlice_sound h hK)
  case _ t y i ho => exact go _ (by unfold execOp; rw [ho]) (aFieldAddr_sound h hK)
  case _ t y i ho => exact go _ (by unfold execOp; rw [ho]) (aField_sound h hK)
  case _ t y ix ho => exact go _ (by unfold execOp; rw [ho]) (aIndexAddr_sound h hK)
  case _ t y ix ho => exact go _ (by unfold execOp; rw [ho]) (aIndex_sound h hK)
  case _ y i ho => exact go _ (by unfold execOp; rw [ho]) (aExtract_sound h hK)
  case _ t y ho => exact go _ (by unfold execOp; rw [ho]) (aRange_sound h hK)
  case _ y b ho => exact go _ (by unfold execOp; rw [ho]) (aNext_sound h hK)
  case _ t r ho => exact go _ (by unfold execOp; rw [ho]) (aMakeMap_sound h hK)
  case _ t y ix ok ho => exact go _ (by unfold execOp; rw [ho]) (aLookup_sound h hK)
  case _ t y ix v ho => exact go _ (by unfold execOp; rw [ho]) (aMapUpdate_sound h hK)
  case _ c ho =>
    obtain ⟨callee, args, argTypes⟩ := c
    simp only [] at hK
    split at hK
    · rename_i f
      split at hK
      · rename_i g caps hcal
        obtain ⟨⟨fn, hfn, hname, hbody⟩, hcall⟩ := hK
        -- the callee's value
        obtain ⟨capv, hfv, hcapl, hcapr⟩ : ∃ capv : List Value, a.eval f = .func (.func g) #[] capv.toArray ∧ capv.length = caps.length ∧
            (∀ W E, (∀ i, RepA w W E (s.t i) (a.tmps.getD i undef)) → ∀ (k : Nat) (r : A), caps[k]? = some r → RepA w W E r (capv.getD k undef)) := by
          unfold aCallee at hcal
          split at hcal
          · rename_i g' ds hev
            simp only [Option.some.injEq, Prod.mk.injEq] at hcal
            obtain ⟨rfl, rfl⟩ := hcal
            have key : ∀ W E, (∀ i, RepA w W E (s.t i) (a.tmps.getD i undef)) → ∃ vs : List Value, a.eval f = .func (.func g') #[] vs.toArray ∧ vs.length = ds.length ∧ ∀ (k : Nat) (c : D), ds[k]? = some c → RepD w W c (vs.getD k undef) := fun W E h4 => by
              have h5 := aeval_rep h4 f
              rw [hev] at h5
              generalize a.eval f = fv at h5
              cases one_inv h5 with
              | clo _ _ vs hl hr => exact ⟨vs, rfl, hl, hr⟩
            obtain ⟨_, _, E, _, h4⟩ := id h
            obtain ⟨vs, hv1, hv2, _⟩ := key _ E h4
            refine ⟨vs, hv1, by simpa using hv2, fun W E h4 k r hk => ?_⟩
            obtain ⟨vs', hv1', _, hv3⟩ := key W E h4
            have : vs = vs' := by rw [hv1] at hv1'; simpa using hv1'
            subst this
            simp only [List.getElem?_map, Option.map_eq_some_iff] at hk
            obtain ⟨d, hd, rfl⟩ := hk
            exact .one (.d d) _ (hv3 k d hd)
          · rename_i g' ids hev
            simp only [Option.some.injEq, Prod.mk.injEq] at hcal
            obtain ⟨rfl, rfl⟩ := hcal
            have key : ∀ W E, (∀ i, RepA w W E (s.t i) (a.tmps.getD i undef)) → (∀ id ∈ ids, id < E.n) ∧ a.eval f = .func (.func g') #[] (ids.map fun id => Value.pointer (some ⟨E.β id, 0, none⟩)).toArray := fun W E h4 => by
              have h5 := aeval_rep h4 f
              rw [hev] at h5
              exact one_inv h5
            obtain ⟨_, _, E, _, h4⟩ := id h
            obtain ⟨_, hv1⟩ := key _ E h4
            refine ⟨_, hv1, by simp, fun W E' h4' k r hk => ?_⟩
            obtain ⟨hlt, hv2⟩ := key W E' h4'
            rw [hv1] at hv2
            have he : (ids.map fun id => Value.pointer (some ⟨E.β id, 0, none⟩)) = (ids.map fun id => Value.pointer (some ⟨E'.β id, 0, none⟩)) := by simpa using hv2
            simp only [List.getElem?_map, Option.map_eq_some_iff] at hk
            obtain ⟨id', hid, rfl⟩ := hk
            rw [he]
            have : (ids.map fun id => Value.pointer (some ⟨E'.β id, 0, none⟩)).getD k undef = .pointer (some ⟨E'.β id', 0, none⟩) := by
              rw [List.getD_eq_getElem?_getD, List.getElem?_map, hid]; rfl
            rw [this]
            exact .one (.ref id' 0) _ ⟨hlt id' (List.mem_of_getElem? hid), rfl⟩
          · rename_i g' ks hev
            simp only [Option.some.injEq, Prod.mk.injEq] at hcal
            obtain ⟨rfl, rfl⟩ := hcal
            have key : ∀ W E, (∀ i, RepA w W E (s.t i) (a.tmps.getD i undef)) → (∀ k ∈ ks, k < E.hn) ∧ a.eval f = .func (.func g') #[] (ks.map fun k => Value.pointer (some ⟨E.γ k, 0, none⟩)).toArray := fun W E h4 => by
              have h5 := aeval_rep h4 f
              rw [hev] at h5
              exact one_inv h5
            obtain ⟨_, _, E, _, h4⟩ := id h
            obtain ⟨_, hv1⟩ := key _ E h4
            refine ⟨_, hv1, by simp, fun W E' h4' k r hk => ?_⟩
            obtain ⟨hlt, hv2⟩ := key W E' h4'
            rw [hv1] at hv2
            have he : (ks.map fun k => Value.pointer (some ⟨E.γ k, 0, none⟩)) = (ks.map fun k => Value.pointer (some ⟨E'.γ k, 0, none⟩)) := by simpa using hv2
            simp only [List.getElem?_map, Option.map_eq_some_iff] at hk
            obtain ⟨id', hid, rfl⟩ := hk
            rw [he]
            have : (ks.map fun k => Value.pointer (some ⟨E'.γ k, 0, none⟩)).getD k undef = .pointer (some ⟨E'.γ id', 0, none⟩) := by
              rw [List.getD_eq_getElem?_getD, List.getElem?_map, hid]; rfl
            rw [this]
            exact .one (.hp id' 0) _ ⟨hlt id' (List.mem_of_getElem? hid), rfl⟩
          · cases hcal
        have hrun : (execOp a.eval o).run P w = .ok (.enter g (args.map a.eval ++ capv.toArray)) w := by
          unfold execOp
          rw [ho]
          simp only [resolve, hfv, Sem.run_bind]
          have hn1 : ¬ fn.name = "runtime.NumGoroutine" := by simpa using hname
          have hn2 : ¬ fn.body = none := by intro h; simp [h] at hbody
          simp [Deferred.ofValue, invoke, callFunc, hfn, hn1, hn2]
        rw [hrun]
        show Calls P g _ w _
        refine (hcall x a w (args.map a.eval ++ capv.toArray) hx h (by simp [hcapl]) ?_).mono ?_
        · intro W E h4 k r hk
          rw [List.getElem?_append] at hk
          split at hk
          · rename_i hlt
            simp only [List.getElem?_map, Option.map_eq_some_iff, Array.getElem?_toList] at hk
            obtain ⟨o', ho', rfl⟩ := hk
            have hlt' : k < (args.map a.eval).size := by simp at hlt ⊢; exact hlt
            rw [Array.getD_eq_getD_getElem?, Array.getElem?_append_left hlt', Array.getElem?_map, ho']
            exact aeval_rep h4 o'
          · rename_i hge
            have hge' : (args.map a.eval).size ≤ k := by simp at hge ⊢; exact hge
            rw [Array.getD_eq_getD_getElem?, Array.getElem?_append_right hge', List.getElem?_toArray, ← List.getD_eq_getElem?_getD]
            have e : k - (args.map a.eval).size = k - (args.toList.map (aeval s)).length := by simp
            rw [e]
            exact hcapr W E h4 _ r hk
        · rintro e w' ⟨v, r, s', rfl, hrep, hk, hm⟩
          exact hn r s' v w' hrep hk hm
      · exact hK.elim
    · rename_i b
      have hres : ∀ m, builtin b argTypes o.type (args.map fun | .const _ => true | _ => false) (args.map a.eval) = m → execOp a.eval o = (do let d ← (pure { target := .builtin b argTypes o.type (args.map fun | .const _ => true | _ => false), args := args.map a.eval } : Sem Deferred); invoke d.target d.args) := fun m _ => by
        unfold execOp; rw [ho]; rfl
      have hrun : (execOp a.eval o).run P w = (builtin b argTypes o.type (args.map fun | .const _ => true | _ => false) (args.map a.eval)).run P w := by
        rw [hres _ rfl]; simp [invoke]
      rw [hrun]
      split at hK
      · rename_i y t hargs htys
        have ha : args = #[y] := by apply Array.toList_inj.1; simpa using hargs
        have ht : argTypes = #[t] := by apply Array.toList_inj.1; simpa using htys
        subst ha; subst ht
        have hm : ∀ cs, builtin .len #[t] o.type cs (#[y].map a.eval) = (do pure (.value (← Builtin.len_ #[t] o.type #[a.eval y])) : Sem Next) := fun _ => by simp [builtin]
        rw [hm]
        exact upon_of_ok (aLen_sound h hK) hn
      · rename_i y z t t' hargs htys
        obtain ⟨rfl, hK⟩ := hK
        have ha : args = #[y, z] := by apply Array.toList_inj.1; simpa using hargs
        have ht : argTypes = #[t', t'] := by apply Array.toList_inj.1; simpa using htys
        subst ha; subst ht
        have hm : ∀ cs, builtin .append #[t', t'] o.type cs (#[y, z].map a.eval) = (do pure (.value (← Builtin.append_ #[t', t'] o.type #[a.eval y, a.eval z])) : Sem Next) := fun _ => by simp [builtin]
        rw [hm]
        exact upon_of_ok (aAppend_sound hx h hK) hn
      · rename_i y z hargs
        have ha : args = #[y, z] := by apply Array.toList_inj.1; simpa using hargs
        subst ha
        have hm : ∀ cs, builtin .min argTypes o.type cs (#[y, z].map a.eval) = (do pure (.value (← Builtin.min_ argTypes o.type #[a.eval y, a.eval z])) : Sem Next) := fun _ => by simp [builtin]
        rw [hm]
        exact upon_of_ok (aMin_sound (mn := true) h hK) hn
      · rename_i y z hargs
        have ha : args = #[y, z] := by apply Array.toList_inj.1; simpa using hargs
        subst ha
        have hm : ∀ cs, builtin .max argTypes o.type cs (#[y, z].map a.eval) = (do pure (.value (← Builtin.max_ argTypes o.type #[a.eval y, a.eval z])) : Sem Next) := fun _ => by simp [builtin]
        rw [hm]
        exact upon_of_ok (aMin_sound (mn := false) h hK) hn
      · exact hK.elim
    · exact hK.elim
  · exact hK.elim


/-- What one operation does. -/
def aop (P : Program) (s : St) (o : Op) (K : A → St → Prop) : Prop := aop0 P s o K ∨ aheap P s o K

theorem aop_sound {P : Program} {x : Ent} (hx : x.ok) {s : St} {a : Act} {w : World} (h : RepSt P x s a w) {o : Oper} {K : A → St → Prop} (hK : aop P s o.op K) {next : Act → World → Prop} {Q : Exit → Act → World → Prop}
    (hn : ∀ r s' v w', RepSV P x s' a w' r v → K r s' → s'.m = s.m → next (a.put o.dst v) w') : o.wp P a w next Q := by
  rcases hK with hK | hK
  · exact aop0_sound hx h hK hn
  unfold Oper.wp
  have go : ∀ m : Sem Next, execOp a.eval o = m → OpOK P x s a w m K → o.upon P a next Q ((execOp a.eval o).run P w) := fun m hm hok => by rw [hm]; exact upon_of_ok hok hn
  generalize ho : o.op = op at hK
  cases op
  case indexAddr t y ix => exact go _ (by unfold execOp; rw [ho]) (ahIndexAddr_sound h hK)
  case load t y => exact go _ (by unfold execOp; rw [ho]) (ahLoad_sound h hK)
  case store t y z => exact go _ (by unfold execOp; rw [ho]) (ahStore_sound h hK)
  case slice t y lo hi mx => exact go _ (by unfold execOp; rw [ho]) (ahSlice_sound h hK)
  case makeSlice t l c => exact go _ (by unfold execOp; rw [ho]) (ahMake_sound h hK)
  case alloc e => exact go _ (by unfold execOp; rw [ho]) (ahAlloc_sound h hK)
  case box e y => exact go _ (by unfold execOp; rw [ho]) (ahBox_sound h hK)
  case buildSlice t len parts => exact go _ (by unfold execOp; rw [ho]) (ahBuildSlice_sound h hK)
  case nilCheck y =>
    obtain ⟨k, off, hy, hK⟩ := hK
    exact upon_of_ok (ahNilCheck_sound h hy hK ho) hn
  case makeFunc fn first captured => exact go _ (by unfold execOp; rw [ho]) (ahMakeFunc_sound h hK)
  case binOp op t y z t2 => exact go _ (by unfold execOp; rw [ho]) (ahNil_sound h hK)
  case call c =>
    obtain ⟨callee, args, argTypes⟩ := c
    unfold aheap at hK
    simp only [] at hK
    split at hK
    · rename_i b
      have hres : ∀ m, builtin b argTypes o.type (args.map fun | .const _ => true | _ => false) (args.map a.eval) = m → execOp a.eval o = (do let d ← (pure { target := .builtin b argTypes o.type (args.map fun | .const _ => true | _ => false), args := args.map a.eval } : Sem Deferred); invoke d.target d.args) := fun m _ => by
        unfold execOp; rw [ho]; rfl
      have hrun : (execOp a.eval o).run P w = (builtin b argTypes o.type (args.map fun | .const _ => true | _ => false) (args.map a.eval)).run P w := by
        rw [hres _ rfl]; simp [invoke]
      rw [hrun]
      split at hK
      · rename_i y t hargs htys
        have ha : args = #[y] := by apply Array.toList_inj.1; simpa using hargs
        have ht : argTypes = #[t] := by apply Array.toList_inj.1; simpa using htys
        subst ha; subst ht
        obtain ⟨e, v, n, h1, h2, h3, h4⟩ := hK
        have hm : ∀ cs, builtin .len #[t] o.type cs (#[y].map a.eval) = (do pure (.value (← Builtin.len_ #[t] o.type #[a.eval y])) : Sem Next) := fun _ => by simp [builtin]
        rw [hm]
        exact upon_of_ok (ahLen_sound h h1 h2 h3 h4) hn
      · rename_i y t hargs htys
        have ha : args = #[y] := by apply Array.toList_inj.1; simpa using hargs
        have ht : argTypes = #[t] := by apply Array.toList_inj.1; simpa using htys
        subst ha; subst ht
        obtain ⟨e, v, n, h1, h2, h3, h4⟩ := hK
        have hm : ∀ cs, builtin .cap #[t] o.type cs (#[y].map a.eval) = (do pure (.value (← Builtin.cap_ #[t] o.type #[a.eval y])) : Sem Next) := fun _ => by simp [builtin]
        rw [hm]
        exact upon_of_ok (ahCap_sound h h1 h2 h3 h4) hn
      · rename_i y z t t' hargs htys
        have ha : args = #[y, z] := by apply Array.toList_inj.1; simpa using hargs
        rcases hK with ⟨rfl, e, by_, zc, v, n, u, ys, p, h1, h2, h3, h4, h5, h6, h7, h8, h9, h10, h11⟩ | ⟨e, by_, zc, v, n, kn, kq, m, p, h1, h2, h3, h4, h5, h6, h7, h8, h9, h10, h11, h12⟩
        rotate_left
        · have ht : argTypes = #[t, t'] := by apply Array.toList_inj.1; simpa using htys
          subst ha; subst ht
          have hm : ∀ cs, builtin .append #[t, t'] o.type cs (#[y, z].map a.eval) = (do pure (.value (← Builtin.append_ #[t, t'] o.type #[a.eval y, a.eval z])) : Sem Next) := fun _ => by simp [builtin]
          rw [hm]
          exact upon_of_ok (ahAppZ_sound h h1 h2 h3 h4 h5 h6 h7 h8 h9 h10 h11 h12) hn
        have ht : argTypes = #[t', t'] := by apply Array.toList_inj.1; simpa using htys
        subst ha; subst ht
        have hm : ∀ cs, builtin .append #[t', t'] o.type cs (#[y, z].map a.eval) = (do pure (.value (← Builtin.append_ #[t', t'] o.type #[a.eval y, a.eval z])) : Sem Next) := fun _ => by simp [builtin]
        rw [hm]
        exact upon_of_ok (ahApp_sound h h1 h2 h3 h4 h5 h6 h7 h8 h9 h10 h11) hn
      · rename_i y z t t' hargs htys
        obtain ⟨rfl, e, v, u, ys, p, h1, h2, h3, h4, h5, h6⟩ := hK
        have ha : args = #[y, z] := by apply Array.toList_inj.1; simpa using hargs
        have ht : argTypes = #[t', t'] := by apply Array.toList_inj.1; simpa using htys
        subst ha; subst ht
        have hm : ∀ cs, builtin .copy #[t', t'] o.type cs (#[y, z].map a.eval) = (do pure (.value (← Builtin.copy_ #[t', t'] o.type #[a.eval y, a.eval z])) : Sem Next) := fun _ => by simp [builtin]
        rw [hm]
        exact upon_of_ok (ahCopy_sound h h1 h2 h3 h4 h5 h6) hn
      · rename_i y t hargs htys
        have ha : args = #[y] := by apply Array.toList_inj.1; simpa using hargs
        have ht : argTypes = #[t] := by apply Array.toList_inj.1; simpa using htys
        subst ha; subst ht
        obtain ⟨e, z, v, H, h1, h2, h3, h4, h5⟩ := hK
        have hm : ∀ cs, builtin .clear #[t] o.type cs (#[y].map a.eval) = (do pure (.value (← Builtin.clear_ #[t] o.type #[a.eval y])) : Sem Next) := fun _ => by simp [builtin]
        rw [hm]
        exact upon_of_ok (ahClear_sound h h1 h2 h3 h4 h5) hn
      · exact hK.elim
    · exact hK.elim
  all_goals exact hK.elim

theorem aheap_mono {P : Program} {s : St} {o : Op} {K K' : A → St → Prop} (hq : ∀ r s, K r s → K' r s) (h : aheap P s o K) : aheap P s o K' := by
  cases o
  case indexAddr t y ix => obtain ⟨e, c, kk, i, p, h1, h2, h3, h4, h5⟩ := h; exact ⟨e, c, kk, i, p, h1, h2, h3, h4, hq _ _ h5⟩
  case load t y => obtain ⟨p, c, h1, h2, h3, h4, h5⟩ := h; exact ⟨p, c, h1, h2, h3, h4, hq _ _ h5⟩
  case store t y z => obtain ⟨p, c, H, h1, h2, h3, h4, h5⟩ := h; exact ⟨p, c, H, h1, h2, h3, h4, hq _ _ h5⟩
  case slice t y lo hi mx =>
    cases mx with
    | none => obtain ⟨e, c, n, p, q, r, h1, h2, h3, h4, h5, h6, h7⟩ := h; exact ⟨e, c, n, p, q, r, h1, h2, h3, h4, h5, h6, hq _ _ h7⟩
    | some m => obtain ⟨e, c, n, p, b, q, h1, h2, h3, h4, h5, h6, h7, h8, h9, h10, h11, h12⟩ := h; exact ⟨e, c, n, p, b, q, h1, h2, h3, h4, h5, h6, h7, h8, h9, h10, h11, hq _ _ h12⟩
  case makeSlice t l c => obtain ⟨e, b, z, kl, kc, n, h1, h2, h3, h4, h5, h6, h7, h8, h9⟩ := h; exact ⟨e, b, z, kl, kc, n, h1, h2, h3, h4, h5, h6, h7, h8, hq _ _ h9⟩
  case alloc e => obtain ⟨z, h1, h2, h3⟩ := h; exact ⟨z, h1, h2, hq _ _ h3⟩
  case box e y => obtain ⟨z, h1, h2, h3⟩ := h; exact ⟨z, h1, h2, hq _ _ h3⟩
  case buildSlice t len parts => obtain ⟨e, cs, h1, h2, h3, h4, h5, h6⟩ := h; exact ⟨e, cs, h1, h2, h3, h4, h5, hq _ _ h6⟩
  case nilCheck y => obtain ⟨k, off, h1, h2⟩ := h; exact ⟨k, off, h1, hq _ _ h2⟩
  case makeFunc fn first captured => obtain ⟨f, ks, h1, h2, h3, h4⟩ := h; exact ⟨f, ks, h1, h2, h3, hq _ _ h4⟩
  case binOp op t y z t2 => obtain ⟨e, c, n, h1, h2, h3, h4, h5, h6, h7⟩ := h; exact ⟨e, c, n, h1, h2, h3, h4, h5, hq _ _ h6, fun e => hq _ _ (h7 e)⟩
  case call c =>
    unfold aheap at h ⊢
    simp only [] at h ⊢
    split at h
    · split at h
      · obtain ⟨e, v, n, h1, h2, h3, h4⟩ := h; exact ⟨e, v, n, h1, h2, h3, hq _ _ h4⟩
      · obtain ⟨e, v, n, h1, h2, h3, h4⟩ := h; exact ⟨e, v, n, h1, h2, h3, hq _ _ h4⟩
      · rcases h with ⟨rfl, e, by_, zc, v, n, u, ys, p, h1, h2, h3, h4, h5, h6, h7, h8, h9, h10, h11⟩ | ⟨e, by_, zc, v, n, kn, kq, m, p, h1, h2, h3, h4, h5, h6, h7, h8, h9, h10, h11, h12⟩
        · exact .inl ⟨rfl, e, by_, zc, v, n, u, ys, p, h1, h2, h3, h4, h5, h6, h7, h8, h9, h10, hq _ _ h11⟩
        · exact .inr ⟨e, by_, zc, v, n, kn, kq, m, p, h1, h2, h3, h4, h5, h6, h7, h8, h9, h10, h11, hq _ _ h12⟩
      · obtain ⟨rfl, e, v, u, ys, p, h1, h2, h3, h4, h5, h6⟩ := h; exact ⟨rfl, e, v, u, ys, p, h1, h2, h3, h4, h5, hq _ _ h6⟩
      · obtain ⟨e, z, v, H, h1, h2, h3, h4, h5⟩ := h; exact ⟨e, z, v, H, h1, h2, h3, h4, hq _ _ h5⟩
      · exact h.elim
    · exact h.elim
  all_goals exact h.elim

/-- Operations in the order of the text. -/
def aops (P : Program) (ops : List Oper) : List Oper → (St → Prop) → St → Prop
  | [], K, s => K s
  | o :: rest, K, s => match o.guard with
    | none => (match o.dst with
      | some d => d < s.m ∧ aop P s o.op fun r s' => aops P ops rest K (s'.set d r)
      | none => aop P s o.op fun _ s' => aops P ops rest K s')
    | some (j, want) => (match o.dst, (ops[j]?).bind (·.dst) with
      | some d, some g => d < s.m ∧ (match s.t g with
        | .one (.d (.v (.bool b))) => (b = want → aop P (s.set g (.one (.d (.v (.bool want))))) o.op fun r s' => aops P ops rest K (s'.set d r)) ∧
            (b = !want → aops P ops rest K ((s.set g (.one (.d (.v (.bool (!want)))))).set d (.tup [])))
        | .tup [] => aops P ops rest K (s.set d (.tup []))
        | _ => False)
      | _, _ => False)

/-- A slot whose value is known anew. -/
theorem RepSt.reset {P : Program} {x : Ent} {s : St} {a : Act} {w : World} (h : RepSt P x s a w) (g : Nat) (r : A) (hr : ∀ W E, RepA w W E (s.t g) (a.tmps.getD g undef) → RepA w W E r (a.tmps.getD g undef)) :
    RepSt P x (s.set g r) a w := by
  obtain ⟨h1, h2, E, h3, h4⟩ := h
  refine ⟨h1, h2, E, h3.set g r, fun i => ?_⟩
  show RepA w _ E (upd s.t g r i) _
  unfold upd
  split
  · rename_i e; subst e; exact hr _ _ (h4 i)
  · exact h4 i

theorem wanted_eq {ops : Array Oper} {o : Oper} {a : Act} {j g : Nat} {want : Bool} (hg : o.guard = some (j, want)) (hd : (ops[j]?).bind (·.dst) = some g) :
    Region.wanted o (yielded ops a.tmps) = (match a.tmps[g]? with | some (.bool b) => b == want | _ => false) := by
  unfold Region.wanted
  rw [hg]
  simp only [yielded, hd, Option.bind_some]
  split <;> simp_all

theorem aops_sound {P : Program} {x : Ent} (hx : x.ok) {ops : Array Oper} {K : St → Prop} {Q : Exit → Act → World → Prop} : ∀ (l : List Oper) (s : St) (a : Act) (w : World), RepSt P x s a w → aops P ops.toList l K s →
    (∀ s' a' w', RepSt P x s' a' w' → K s' → s'.m = s.m → Q .normal a' w') → wpList P ops Q l a w
  | [], s, a, w, h, hK, hQ => hQ s a w h hK rfl
  | o :: rest, s, a, w, h, hK, hQ => by
    unfold aops at hK
    split at hK
    · rename_i hg
      have hput : ∀ (d : Option Nat) (r : A) (s' : St) (v : Value) (w' : World), (∀ d', d = some d' → d' < s.m) → RepSV P x s' a w' r v → s'.m = s.m → RepSt P x (s'.put d r) (a.put d v) w' :=
        fun d r s' v w' hd hr hm => hr.put d fun d' hd' => by rw [hm]; exact hd d' hd'
      refine wpList_plain hg fun K' hK' => ?_
      split at hK
      · rename_i d hd
        obtain ⟨hlt, hK⟩ := hK
        refine aop_sound hx h hK fun r s' v w' hr hk hm => ?_
        have := hput o.dst r s' v w' (fun d' h => by rw [hd] at h; cases h; exact hlt) hr hm
        rw [hd] at this ⊢
        exact hK' _ _ (aops_sound hx rest _ _ _ this hk fun s2 a2 w2 h2 k2 m2 => hQ s2 a2 w2 h2 k2 (by rw [m2]; exact hm))
      · rename_i hd
        refine aop_sound hx h hK fun r s' v w' hr hk hm => ?_
        have := hput o.dst r s' v w' (fun d' h => by rw [hd] at h; cases h) hr hm
        rw [hd] at this ⊢
        exact hK' _ _ (aops_sound hx rest _ _ _ this hk fun s2 a2 w2 h2 k2 m2 => hQ s2 a2 w2 h2 k2 (by rw [m2]; exact hm))
    · rename_i j want hg
      split at hK
      · rename_i d g hd hgd
        have hgd' : (ops[j]?).bind (·.dst) = some g := by simpa using hgd
        obtain ⟨hlt, hK⟩ := hK
        have hw := wanted_eq (a := a) hg hgd'
        have hgv : ∀ u, a.tmps.getD g undef = u → u ≠ undef → a.tmps[g]? = some u := fun u hu hne => by
          rw [Array.getD_eq_getD_getElem?] at hu
          cases hh : a.tmps[g]? with
          | none => rw [hh] at hu; exact absurd hu.symm hne
          | some v => rw [hh] at hu; simp at hu; rw [hu]
        have hskip : ∀ s1, RepSt P x s1 a w → s1.m = s.m → aops P ops.toList rest K (s1.set d (.tup [])) → Region.wanted o (yielded ops a.tmps) = false → wpList P ops Q (o :: rest) a w := by
          intro s1 h1 hm1 hk hnw
          refine wpList_skip hnw ?_
          have hsv : RepSV P x s1 a w (.tup []) undef := h1.sv fun _ _ _ => .tup [] [] rfl (by simp)
          have := hsv.put o.dst fun d' hd' => by rw [hd] at hd'; cases hd'; rw [hm1]; exact hlt
          rw [hd] at this ⊢
          exact aops_sound hx rest _ _ _ this hk fun s2 a2 w2 h2 k2 m2 => hQ s2 a2 w2 h2 k2 (by rw [m2]; exact hm1)
        split at hK
        · rename_i b hb
          have hv : a.tmps.getD g undef = .bool b := by
            obtain ⟨_, _, E, _, h4⟩ := h
            have := h4 g; rw [hb] at this; exact v_inv this
          have hv' := hgv _ hv (by simp [undef])
          rw [hv'] at hw
          simp only [] at hw
          by_cases hbw : b = want
          · subst hbw
            have hw : Region.wanted o (yielded ops a.tmps) = true := by rw [hw]; simp
            refine wpList_step fun K' hK' => ?_
            rw [if_pos hw]
            have h' := h.reset g (.one (.d (.v (.bool b)))) fun W E _ => by rw [hv]; exact RepA.v _ rfl
            refine aop_sound hx h' (hK.1 rfl) fun r s' v w' hr hk hm => ?_
            have := hr.put o.dst fun d' hd' => by rw [hd] at hd'; cases hd'; rw [hm]; exact hlt
            rw [hd] at this ⊢
            exact hK' _ _ (aops_sound hx rest _ _ _ this hk fun s2 a2 w2 h2 k2 m2 => hQ s2 a2 w2 h2 k2 (by rw [m2]; exact hm))
          · have hbn : b = !want := by cases b <;> cases want <;> simp_all
            have h' := h.reset g (.one (.d (.v (.bool (!want))))) fun W E _ => by rw [hv, hbn]; exact RepA.v _ rfl
            exact hskip _ h' rfl (hK.2 hbn) (by rw [hw]; simpa using hbw)
        · rename_i hb
          have hv : a.tmps.getD g undef = undef := by
            obtain ⟨_, _, E, _, h4⟩ := h
            have := h4 g; rw [hb] at this
            generalize a.tmps.getD g undef = va at this
            cases this with
            | tup _ vs hl _ => have : vs = [] := List.eq_nil_of_length_eq_zero hl; subst this; rfl
          refine hskip _ h rfl hK ?_
          rw [hw]
          split
          · rename_i b hb'
            rw [Array.getD_eq_getD_getElem?, hb'] at hv
            simp [undef] at hv
          · rfl
        · exact hK.elim
      · exact hK.elim

/-- What code does, in one state. -/
def AWp (P : Program) (c : Code) (Q : Exit → St → Prop) (s : St) : Prop :=
  ∀ (x : Ent) (a : Act) (w : World), x.ok → RepSt P x s a w → c.wp P (fun e a' w' => ∃ s', RepSt P x s' a' w' ∧ Q e s' ∧ s'.m = s.m) a w

/-- A loop, from the head of a round on. -/
def LoopAt (P : Program) (c : Code) (Q : Exit → Act → World → Prop) (a : Act) (w : World) : Prop :=
  ∀ (b : Frame) (k : List Item) (cs : List Frame), ∃ e a' w', Q e a' w' ∧ Arrives P (lone (b.at a (.code c :: .inLoop c :: k)) cs w) b k cs e a' w'

theorem wp_of_loopAt {P : Program} {c : Code} {Q : Exit → Act → World → Prop} {a : Act} {w : World} (h : LoopAt P c Q a w) : (Code.loop c).wp P Q a w := by
  intro b k cs
  obtain ⟨e, a', w', hq, harr⟩ := h b k cs
  exact ⟨e, a', w', hq, .of_steps (.one step_loop) harr⟩

theorem loopAt_round {P : Program} {c : Code} {Q : Exit → Act → World → Prop} {a : Act} {w : World} (h : c.wp P (Exit.then (LoopAt P c Q) Q) a w) : LoopAt P c Q a w := by
  intro b k cs
  obtain ⟨e, a₁, w₁, hq, harr⟩ := h b (.inLoop c :: k) cs
  cases e with
  | normal =>
    obtain ⟨e₂, a₂, w₂, hq₂, harr₂⟩ := hq b k cs
    exact ⟨e₂, a₂, w₂, hq₂, .of_steps (Steps.trans harr (.one step_inLoop)) harr₂⟩
  | exit id => exact ⟨_, a₁, w₁, hq, .pass (x := .inLoop c) rfl (fun _ _ => .inl (by simp)) harr⟩
  | goto l => exact ⟨_, a₁, w₁, hq, .pass (x := .inLoop c) rfl (fun _ _ => .inl (by simp)) harr⟩
  | ret => exact ⟨_, a₁, w₁, hq, .pass (x := .inLoop c) rfl (fun _ _ => .inl (by simp)) harr⟩
  | panic ch => exact ⟨_, a₁, w₁, hq, .pass (x := .inLoop c) rfl (fun _ _ => .inl (by simp)) harr⟩
  | outgrown => exact ⟨_, a₁, w₁, hq, .pass (x := .inLoop c) rfl (fun _ _ => .inl (by simp)) harr⟩

structure ALoop (P : Program) (c : Code) (Q : Exit → St → Prop) (s : St) : Prop where
  out : ∀ (x : Ent) (a : Act) (w : World), x.ok → RepSt P x s a w → LoopAt P c (fun e a' w' => ∃ s', RepSt P x s' a' w' ∧ Q e s' ∧ s'.m = s.m) a w

def qthen (K : St → Prop) (Q : Exit → St → Prop) : Exit → St → Prop
  | .normal, s => K s
  | e, s => Q e s
def qblock (id : Nat) (Q : Exit → St → Prop) : Exit → St → Prop
  | .exit id', s => if id' = id then Q .normal s else Q (.exit id') s
  | e, s => Q e s

/-- A region whose order is open: what its operations do in every order. -/
structure ADraw (P : Program) (id : Nat) (ops : Array Oper) (K : St → Prop) (s : St) : Prop where
  out : AWp P (.region id ops true) (fun e s' => e = .normal ∧ K s') s

/-- What code does to an abstract state: computed as far as to calls, loops and regions whose order is open. -/
def awp (P : Program) : Code → (Exit → St → Prop) → St → Prop
  | .skip, Q, s => Q .normal s
  | .region id ops draw, Q, s => (match draw with | false => aops P ops.toList ops.toList (Q .normal) s | true => ADraw P id ops (Q .normal) s)
  | .seq c d, Q, s => awp P c (qthen (awp P d Q) Q) s
  | .cond c th el, Q, s => (match aeval s c with
      | .one (.d (.v (.bool b))) => (b = true → awp P th Q s) ∧ (b = false → awp P el Q s)
      | _ => False)
  | .block id c, Q, s => awp P c (qblock id Q) s
  | .loop c, Q, s => ALoop P c Q s
  | .exit id, Q, s => Q (.exit id) s
  | .ret, Q, s => Q .ret s
  | c, Q, s => AWp P c Q s

theorem AWp.mono {P : Program} {c : Code} {Q Q' : Exit → St → Prop} {s : St} (h : AWp P c Q s) (hq : ∀ e s, Q e s → Q' e s) : AWp P c Q' s :=
  fun x a w hx hr => wp_mono (h x a w hx hr) fun e _ _ ⟨s', h1, h2, h3⟩ => ⟨s', h1, hq e s' h2, h3⟩

theorem awp_sound {P : Program} : ∀ (c : Code) (Q : Exit → St → Prop) (s : St), awp P c Q s → AWp P c Q s := by
  intro c
  induction c with
  | skip => exact fun Q s h x a w _ hr => wp_skip ⟨s, hr, h, rfl⟩
  | region id ops draw =>
    intro Q s h x a w hx hr
    unfold awp at h
    cases draw with
    | false => exact wp_region_list (aops_sound hx _ _ _ _ hr h fun s' a' w' h1 h2 h3 => ⟨s', h1, h2, h3⟩)
    | true => exact wp_mono (h.out x a w hx hr) fun e _ _ ⟨s', h1, ⟨he, h2⟩, h3⟩ => ⟨s', h1, he ▸ h2, h3⟩
  | seq c d ihc ihd =>
    intro Q s h x a w hx hr
    refine wp_seq (wp_mono (ihc _ s h x a w hx hr) fun e a' w' ⟨s', h1, h2, h3⟩ => ?_)
    cases e with
    | normal => exact wp_mono (ihd Q s' h2 x a' w' hx h1) fun e2 a2 w2 ⟨s2, g1, g2, g3⟩ => ⟨s2, g1, g2, g3.trans h3⟩
    | exit id => exact ⟨s', h1, h2, h3⟩
    | goto l => exact ⟨s', h1, h2, h3⟩
    | ret => exact ⟨s', h1, h2, h3⟩
    | panic ch => exact ⟨s', h1, h2, h3⟩
    | outgrown => exact ⟨s', h1, h2, h3⟩
  | cond c th el iht ihe =>
    intro Q s h x a w hx hr
    unfold awp at h
    split at h
    · rename_i b hb
      refine wp_cond_split (t := b) (eval_v hr hb) (fun hb => iht Q s (h.1 hb) x a w hx hr) (fun hb => ihe Q s (h.2 hb) x a w hx hr)
    · exact h.elim
  | block id c ih =>
    intro Q s h x a w hx hr
    refine wp_block (wp_mono (ih _ s h x a w hx hr) fun e a' w' ⟨s', h1, h2, h3⟩ => ?_)
    cases e with
    | exit id' =>
      show (if id' = id then _ else _)
      simp only [qblock] at h2
      split
      · rename_i he; rw [if_pos he] at h2; exact ⟨s', h1, h2, h3⟩
      · rename_i he; rw [if_neg he] at h2; exact ⟨s', h1, h2, h3⟩
    | normal => exact ⟨s', h1, h2, h3⟩
    | goto l => exact ⟨s', h1, h2, h3⟩
    | ret => exact ⟨s', h1, h2, h3⟩
    | panic ch => exact ⟨s', h1, h2, h3⟩
    | outgrown => exact ⟨s', h1, h2, h3⟩
  | loop c ih => exact fun Q s h x a w hx hr => wp_of_loopAt (h.out x a w hx hr)
  | exit id => exact fun Q s h x a w _ hr => wp_exit ⟨s, hr, h, rfl⟩
  | ret => exact fun Q s h x a w _ hr => wp_ret ⟨s, hr, h, rfl⟩
  | _ => exact fun Q s h => h

theorem aPart_mono {P : Program} {s : St} {K K' : A → St → Prop} (hq : ∀ r s, K r s → K' r s) {e : TypeId} {cs : List C} {off : Nat} (h : aPart P s e cs off K) : aPart P s e cs off K' := by
  unfold aPart at h ⊢
  (repeat' split at h) <;> first | exact h.elim | exact ⟨h.1, hq _ _ h.2⟩ | exact hq _ _ h
theorem aLoadCells_mono {K K' : A → Prop} (hq : ∀ r, K r → K' r) {cs : List C} {ag : Bool} {sz : Nat} (h : aLoadCells cs ag sz K) : aLoadCells cs ag sz K' := by
  unfold aLoadCells at h ⊢
  cases ag with
  | true => exact ⟨h.1, hq _ h.2⟩
  | false => cases cs with
    | nil => exact h
    | cons c cs => exact hq _ h
theorem ibin_mono {op : BinOp} {k : IntKind} {a b : Int} {K K' : Value → Prop} (hq : ∀ r, K r → K' r) (h : ibin op k a b K) : ibin op k a b K' := by
  cases op <;> first | exact hq _ h | exact ⟨h.1, hq _ h.2⟩ | exact h.elim
theorem ishift_mono {op : BinOp} {k : IntKind} {a b : Int} {K K' : Value → Prop} (hq : ∀ r, K r → K' r) (h : ishift op k a b K) : ishift op k a b K' := by
  cases op <;> first | exact ⟨h.1, hq _ h.2⟩ | exact h.elim
theorem sbin_mono {op : BinOp} {a b : List UInt8} {K K' : D → Prop} (hq : ∀ r, K r → K' r) (h : sbin op a b K) : sbin op a b K' := by
  cases op <;> first | exact hq _ h | exact ⟨h.1, hq _ h.2⟩ | exact h.elim
theorem ACall_mono {P : Program} {f : FuncId} {args : List A} {s : St} {K K' : A → St → Prop} (hq : ∀ r s, K r s → K' r s) (h : ACall P f args s K) : ACall P f args s K' :=
  ⟨h.1, fun x a w vs hx hr hv hv2 => (h.2 x a w vs hx hr hv hv2).mono fun _ _ ⟨v, r, s', h1, h2, h3, h4⟩ => ⟨v, r, s', h1, h2, hq _ _ h3, h4⟩⟩

theorem aLen_mono {P : Program} {s : St} {K K' : A → St → Prop} (hq : ∀ r s, K r s → K' r s) {t : TypeId} {y : Operand} (h : aLen P s t y K) : aLen P s t y K' := by
  unfold aLen at h ⊢
  (repeat' (first | exact hq _ _ h | exact h.elim | split at h | (obtain ⟨h0, h⟩ := h; refine ⟨h0, ?_⟩)))
theorem aAppend_mono {P : Program} {s : St} {K K' : A → St → Prop} (hq : ∀ r s, K r s → K' r s) {t : TypeId} {y z : Operand} (h : aAppend P s t y z K) : aAppend P s t y z K' := by
  unfold aAppend at h ⊢
  (repeat' (first | exact hq _ _ h | exact h.elim | split at h | (obtain ⟨h0, h⟩ := h; refine ⟨h0, ?_⟩)))
theorem aMin_mono {s : St} {K K' : A → St → Prop} (hq : ∀ r s, K r s → K' r s) {mn : Bool} {y z : Operand} (h : aMin s mn y z K) : aMin s mn y z K' := by
  unfold aMin at h ⊢
  (repeat' (first | exact hq _ _ h | exact h.elim | split at h | (obtain ⟨h0, h⟩ := h; refine ⟨h0, ?_⟩)))

theorem aop0_mono {P : Program} {s : St} {o : Op} {K K' : A → St → Prop} (hq : ∀ r s, K r s → K' r s) (h : aop0 P s o K) : aop0 P s o K' := by
  unfold aop0 at h ⊢
  split at h
  all_goals first
    | exact hq _ _ h
    | exact h.elim
    | exact aRange_mono hq h
    | exact aNext_mono hq h
    | exact aMakeMap_mono hq h
    | exact aLookup_mono hq h
    | exact aMapUpdate_mono hq h
    | (unfold aAlloc at h ⊢; split at h <;> first | exact hq _ _ h | exact h.elim)
    | (unfold aBox at h ⊢; split at h <;> first | exact hq _ _ h | exact h.elim)
    | (unfold aUn at h ⊢; split at h <;> first | exact hq _ _ h | exact h.elim)
    | (unfold aExtract at h ⊢; (repeat' split at h) <;> first | exact hq _ _ h | exact h.elim)
    | (unfold aFieldAddr at h ⊢; (repeat' split at h) <;> first | exact hq _ _ h | exact h.elim)
    | (unfold aMakeFunc at h ⊢; (repeat' split at h) <;> first | exact hq _ _ h | exact h.elim)
    | (unfold aMin at h ⊢; (repeat' split at h) <;> first | exact hq _ _ h | exact h.elim)
    | ((repeat' (first | exact hq _ _ h | exact h.elim | exact ⟨fun e => hq _ _ (h.1 e), fun e => hq _ _ (h.2 e)⟩ | exact ACall_mono hq h | exact aPart_mono hq h | exact aLoadCells_mono (fun r => hq r _) h | exact ibin_mono (fun r => hq _ _) h | exact ishift_mono (fun r => hq _ _) h | exact sbin_mono (fun r => hq _ _) h | split at h | (obtain ⟨h0, h⟩ := h; refine ⟨h0, ?_⟩))); done)
    | (unfold aBuild at h ⊢; (repeat' (first | exact hq _ _ h | exact h.elim | exact ⟨fun e => hq _ _ (h.1 e), fun e => hq _ _ (h.2 e)⟩ | exact ACall_mono hq h | exact aPart_mono hq h | exact aLoadCells_mono (fun r => hq r _) h | exact ibin_mono (fun r => hq _ _) h | exact ishift_mono (fun r => hq _ _) h | exact sbin_mono (fun r => hq _ _) h | split at h | (obtain ⟨h0, h⟩ := h; refine ⟨h0, ?_⟩))); done)
    | (unfold aBuildSlice at h ⊢; (repeat' (first | exact hq _ _ h | exact h.elim | exact ⟨fun e => hq _ _ (h.1 e), fun e => hq _ _ (h.2 e)⟩ | exact ACall_mono hq h | exact aPart_mono hq h | exact aLoadCells_mono (fun r => hq r _) h | exact ibin_mono (fun r => hq _ _) h | exact ishift_mono (fun r => hq _ _) h | exact sbin_mono (fun r => hq _ _) h | split at h | (obtain ⟨h0, h⟩ := h; refine ⟨h0, ?_⟩))); done)
    | (unfold aLoad at h ⊢; (repeat' (first | exact hq _ _ h | exact h.elim | exact ⟨fun e => hq _ _ (h.1 e), fun e => hq _ _ (h.2 e)⟩ | exact ACall_mono hq h | exact aPart_mono hq h | exact aLoadCells_mono (fun r => hq r _) h | exact ibin_mono (fun r => hq _ _) h | exact ishift_mono (fun r => hq _ _) h | exact sbin_mono (fun r => hq _ _) h | split at h | (obtain ⟨h0, h⟩ := h; refine ⟨h0, ?_⟩))); done)
    | (unfold aStore at h ⊢; (repeat' (first | exact hq _ _ h | exact h.elim | exact ⟨fun e => hq _ _ (h.1 e), fun e => hq _ _ (h.2 e)⟩ | exact ACall_mono hq h | exact aPart_mono hq h | exact aLoadCells_mono (fun r => hq r _) h | exact ibin_mono (fun r => hq _ _) h | exact ishift_mono (fun r => hq _ _) h | exact sbin_mono (fun r => hq _ _) h | split at h | (obtain ⟨h0, h⟩ := h; refine ⟨h0, ?_⟩))); done)
    | (unfold aBin at h ⊢; (repeat' (first | exact hq _ _ h | exact h.elim | exact ⟨fun e => hq _ _ (h.1 e), fun e => hq _ _ (h.2 e)⟩ | exact ACall_mono hq h | exact aPart_mono hq h | exact aLoadCells_mono (fun r => hq r _) h | exact ibin_mono (fun r => hq _ _) h | exact ishift_mono (fun r => hq _ _) h | exact sbin_mono (fun r => hq _ _) h | split at h | (obtain ⟨h0, h⟩ := h; refine ⟨h0, ?_⟩))); done)
    | (unfold aConvert at h ⊢; (repeat' (first | exact hq _ _ h | exact h.elim | exact ⟨fun e => hq _ _ (h.1 e), fun e => hq _ _ (h.2 e)⟩ | exact ACall_mono hq h | exact aPart_mono hq h | exact aLoadCells_mono (fun r => hq r _) h | exact ibin_mono (fun r => hq _ _) h | exact ishift_mono (fun r => hq _ _) h | exact sbin_mono (fun r => hq _ _) h | split at h | (obtain ⟨h0, h⟩ := h; refine ⟨h0, ?_⟩))); done)
    | (unfold aMake at h ⊢; (repeat' (first | exact hq _ _ h | exact h.elim | exact ⟨fun e => hq _ _ (h.1 e), fun e => hq _ _ (h.2 e)⟩ | exact ACall_mono hq h | exact aPart_mono hq h | exact aLoadCells_mono (fun r => hq r _) h | exact ibin_mono (fun r => hq _ _) h | exact ishift_mono (fun r => hq _ _) h | exact sbin_mono (fun r => hq _ _) h | split at h | (obtain ⟨h0, h⟩ := h; refine ⟨h0, ?_⟩))); done)
    | (unfold aSlice at h ⊢; (repeat' (first | exact hq _ _ h | exact h.elim | exact ⟨fun e => hq _ _ (h.1 e), fun e => hq _ _ (h.2 e)⟩ | exact ACall_mono hq h | exact aPart_mono hq h | exact aLoadCells_mono (fun r => hq r _) h | exact ibin_mono (fun r => hq _ _) h | exact ishift_mono (fun r => hq _ _) h | exact sbin_mono (fun r => hq _ _) h | split at h | (obtain ⟨h0, h⟩ := h; refine ⟨h0, ?_⟩))); done)
    | (unfold aField at h ⊢; (repeat' (first | exact hq _ _ h | exact h.elim | exact ⟨fun e => hq _ _ (h.1 e), fun e => hq _ _ (h.2 e)⟩ | exact ACall_mono hq h | exact aPart_mono hq h | exact aLoadCells_mono (fun r => hq r _) h | exact ibin_mono (fun r => hq _ _) h | exact ishift_mono (fun r => hq _ _) h | exact sbin_mono (fun r => hq _ _) h | split at h | (obtain ⟨h0, h⟩ := h; refine ⟨h0, ?_⟩))); done)
    | (unfold aIndexAddr at h ⊢; (repeat' (first | exact hq _ _ h | exact h.elim | exact ⟨fun e => hq _ _ (h.1 e), fun e => hq _ _ (h.2 e)⟩ | exact ACall_mono hq h | exact aPart_mono hq h | exact aLoadCells_mono (fun r => hq r _) h | exact ibin_mono (fun r => hq _ _) h | exact ishift_mono (fun r => hq _ _) h | exact sbin_mono (fun r => hq _ _) h | split at h | (obtain ⟨h0, h⟩ := h; refine ⟨h0, ?_⟩))); done)
    | (unfold aIndex at h ⊢; (repeat' (first | exact hq _ _ h | exact h.elim | exact ⟨fun e => hq _ _ (h.1 e), fun e => hq _ _ (h.2 e)⟩ | exact ACall_mono hq h | exact aPart_mono hq h | exact aLoadCells_mono (fun r => hq r _) h | exact ibin_mono (fun r => hq _ _) h | exact ishift_mono (fun r => hq _ _) h | exact sbin_mono (fun r => hq _ _) h | split at h | (obtain ⟨h0, h⟩ := h; refine ⟨h0, ?_⟩))); done)
    | skip
  rename_i c
  split at h
  · split at h
    · exact ACall_mono hq h
    · exact h.elim
  · split at h
    · exact aLen_mono hq h
    · exact ⟨h.1, aAppend_mono hq h.2⟩
    · exact aMin_mono hq h
    · exact aMin_mono hq h
    · exact h.elim
  · exact h.elim

theorem aop_mono {P : Program} {s : St} {o : Op} {K K' : A → St → Prop} (hq : ∀ r s, K r s → K' r s) (h : aop P s o K) : aop P s o K' := h.imp (aop0_mono hq) (aheap_mono hq)

theorem aops_mono {P : Program} {ops : List Oper} {K K' : St → Prop} (hq : ∀ s, K s → K' s) : ∀ (l : List Oper) (s : St), aops P ops l K s → aops P ops l K' s := by
  intro l
  induction l with
  | nil => exact fun s h => hq s h
  | cons o rest ih =>
    intro s h
    unfold aops at h ⊢
    split
    · rename_i hg
      simp only [hg] at h
      split
      · rename_i d hd; simp only [hd] at h; exact ⟨h.1, aop_mono (fun r s' => ih _) h.2⟩
      · rename_i hd; simp only [hd] at h; exact aop_mono (fun r s' => ih _) h
    · rename_i j want hg
      simp only [hg] at h
      split
      · rename_i d g hd hgd
        simp only [hd, hgd] at h
        refine ⟨h.1, ?_⟩
        have h := h.2
        split
        · rename_i b hb; simp only [hb] at h; exact ⟨fun e => aop_mono (fun r s' => ih _) (h.1 e), fun e => ih _ (h.2 e)⟩
        · rename_i hb; simp only [hb] at h; exact ih _ h
        · rename_i h1 h2
          split at h
          · rename_i b hb; exact absurd hb (h1 b)
          · rename_i hb; exact absurd hb h2
          · exact h.elim
      · rename_i h1
        split at h
        · rename_i d g hd hgd; exact absurd hgd (h1 d g hd)
        · exact h.elim

theorem awp_mono {P : Program} (c : Code) : ∀ {Q Q' : Exit → St → Prop}, (∀ e s, Q e s → Q' e s) → ∀ s, awp P c Q s → awp P c Q' s := by
  induction c with
  | skip => exact fun hq s h => hq _ _ h
  | region id ops draw =>
    intro Q Q' hq s h
    unfold awp at h ⊢
    cases draw with
    | false => exact aops_mono (fun s => hq _ s) _ _ h
    | true => exact ⟨AWp.mono (P := P) h.out fun e s ⟨h1, h2⟩ => ⟨h1, hq _ _ h2⟩⟩
  | seq c d ihc ihd =>
    intro Q Q' hq s h
    refine ihc (fun e s h => ?_) s h
    cases e with
    | normal => exact ihd hq s h
    | exit id => exact hq _ _ h
    | goto l => exact hq _ _ h
    | ret => exact hq _ _ h
    | panic ch => exact hq _ _ h
    | outgrown => exact hq _ _ h
  | cond c th el iht ihe =>
    intro Q Q' hq s h
    unfold awp at h ⊢
    split
    · rename_i b hb; simp only [hb] at h; exact ⟨fun e => iht hq s (h.1 e), fun e => ihe hq s (h.2 e)⟩
    · rename_i h1
      split at h
      · rename_i b hb; exact absurd hb (h1 b)
      · exact h.elim
  | block id c ih =>
    intro Q Q' hq s h
    refine ih (fun e s h => ?_) s h
    cases e with
    | exit id' =>
      simp only [qblock] at h ⊢
      split
      · rename_i e; rw [if_pos e] at h; exact hq _ _ h
      · rename_i e; rw [if_neg e] at h; exact hq _ _ h
    | normal => exact hq _ _ h
    | goto l => exact hq _ _ h
    | ret => exact hq _ _ h
    | panic ch => exact hq _ _ h
    | outgrown => exact hq _ _ h
  | loop c ih =>
    intro Q Q' hq s h
    refine ⟨fun x a w hx hr b k cs => ?_⟩
    obtain ⟨e, a', w', ⟨s', h1, h2, h3⟩, harr⟩ := h.out x a w hx hr b k cs
    exact ⟨e, a', w', ⟨s', h1, hq _ _ h2, h3⟩, harr⟩
  | exit id => exact fun hq s h => hq _ _ h
  | ret => exact fun hq s h => hq _ _ h
  | _ => exact fun hq s h => AWp.mono (P := P) h hq

/-- One round of a loop. -/
theorem ALoop.round {P : Program} {c : Code} {Q : Exit → St → Prop} {s : St} (h : awp P c (qthen (ALoop P c Q) Q) s) : ALoop P c Q s := by
  refine ⟨fun x a w hx hr => ?_⟩
  refine loopAt_round (wp_mono (awp_sound _ _ _ h x a w hx hr) fun e a' w' ⟨s', h1, h2, h3⟩ => ?_)
  cases e with
  | normal =>
    intro b k cs
    obtain ⟨e, a2, w2, ⟨s2, g1, g2, g3⟩, harr⟩ := h2.out x a' w' hx h1 b k cs
    exact ⟨e, a2, w2, ⟨s2, g1, g2, g3.trans h3⟩, harr⟩
  | exit id => exact ⟨s', h1, h2, h3⟩
  | goto l => exact ⟨s', h1, h2, h3⟩
  | ret => exact ⟨s', h1, h2, h3⟩
  | panic ch => exact ⟨s', h1, h2, h3⟩
  | outgrown => exact ⟨s', h1, h2, h3⟩

end Go.Av
