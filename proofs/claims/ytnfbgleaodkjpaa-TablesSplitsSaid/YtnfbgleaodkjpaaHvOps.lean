/-
  One operation on an abstract state, and that the machine's own operation follows it. Over any program. No toy.
-/
import Derived.Test.YtnfbgleaodkjpaaHvAppend
set_option linter.all false
namespace Go.Av
open Go.RowKit

def avalC : Value → C
  | .slice none 0 0 => .full []
  | .string b => .d (.s b.data.toList)
  | v => .d (.v v)

/-- A constant as an abstract value. -/
def aval : Value → A
  | .agg vs => if vs.all (·.oneCell') then .agg (vs.toList.map avalC) else .any
  | .tuple vs => if vs.size = 0 then .tup [] else .any
  | v => .one (avalC v)

theorem RepC.aval {w : World} {W : WSet} {E : Env} (v : Value) (h : v.oneCell' = true) : RepC w W E (avalC v) v := by
  unfold avalC
  split
  · exact ⟨.nil none 0, none, rfl⟩
  · rename_i b; exact RepD.s b.data.toList
  · exact RepD.v _ h

theorem RepA.aval {w : World} {W : WSet} {E : Env} (v : Value) : RepA w W E (aval v) v := by
  cases v with
  | agg vs =>
    show RepA w W E (if vs.all (·.oneCell') then .agg (vs.toList.map avalC) else .any) _
    split
    · rename_i h
      have : vs = vs.toList.toArray := by simp
      rw [this]
      refine .agg _ _ (by simp) fun k c hk => ?_
      simp only [List.getElem?_map, Option.map_eq_some_iff] at hk
      obtain ⟨u, hu, rfl⟩ := hk
      have hu' : vs.toList.getD k undef = u := by rw [List.getD_eq_getElem?_getD]; simp at hu ⊢; rw [hu]; rfl
      rw [hu']
      exact .aval u (by
        have hm : u ∈ vs := by simpa using List.mem_of_getElem? hu
        exact (Array.all_eq_true_iff_forall_mem.1 h) u hm)
    · exact .any _
  | tuple vs =>
    show RepA w W E (if vs.size = 0 then .tup [] else .any) _
    split
    · rename_i h
      have : vs = ([] : List Value).toArray := by simpa using h
      subst this
      exact .tup [] [] rfl (by simp)
    · exact .any _
  | bool b => exact .one _ _ (.aval _ rfl)
  | int k n => exact .one _ _ (.aval _ rfl)
  | float k n => exact .one _ _ (.aval _ rfl)
  | complex k a b => exact .one _ _ (.aval _ rfl)
  | string b => exact .one _ _ (.aval _ rfl)
  | pointer p => exact .one _ _ (.aval _ rfl)
  | slice p l c => exact .one _ _ (.aval _ rfl)
  | map r => exact .one _ _ (.aval _ rfl)
  | chan r => exact .one _ _ (.aval _ rfl)
  | func f a b => exact .one _ _ (.aval _ rfl)
  | nilFunc => exact .one _ _ (.aval _ rfl)
  | iface t v => exact .one _ _ (.aval _ rfl)
  | nilIface => exact .one _ _ (.aval _ rfl)

theorem RepA.v {w : World} {W : WSet} {E : Env} (u : Value) (h : u.oneCell' = true) : RepA w W E (.one (.d (.v u))) u := .one (.d (.v u)) u (RepD.v u h)
theorem RepA.s {w : World} {W : WSet} {E : Env} (l : List UInt8) : RepA w W E (.one (.d (.s l))) (.string ⟨l.toArray⟩) := .one (.d (.s l)) _ (RepD.s l)

def aeval (s : St) : Operand → A
  | .tmp t => s.t t
  | .const v => aval v
  | .global g => .one (.d (.v (.pointer (some ⟨g, 0, none⟩))))
  | .func f => .one (.d (.clo f []))

theorem aeval_rep {w : World} {W : WSet} {E : Env} {s : St} {a : Act} (h : ∀ i, RepA w W E (s.t i) (a.tmps.getD i undef)) (x : Operand) : RepA w W E (aeval s x) (a.eval x) := by
  cases x with
  | tmp t => exact h t
  | const v => exact .aval v
  | global g => exact .one _ _ (.v _ rfl)
  | func f => exact .one _ _ (.clo f [] [] rfl (by simp))

/-- Types. -/
def tsz (P : Program) (t : TypeId) : Option Nat := (P.info? t).map (·.size)
def tagg (P : Program) (t : TypeId) : Option Bool := (P.underlying t).map fun | .struct _ | .array _ _ => true | _ => false
def tfield (P : Program) (t : TypeId) (i : Nat) : Option (Nat × TypeId) := match P.underlying t with | some (.struct fs) => (fs[i]?).map fun f => (f.offset, f.type) | _ => none
def telem (P : Program) (t : TypeId) : Option TypeId := match P.underlying t with | some (.slice e) => some e | _ => none
def tarr (P : Program) (t : TypeId) : Option (Nat × TypeId) := match P.underlying t with | some (.array n e) => some (n, e) | _ => none
def tzero (P : Program) (t : TypeId) : Option (List C) := ((P.info? t).bind (·.zero)).bind fun v => (aval v).cells
def tstr (P : Program) (t : TypeId) : Bool := match P.underlying t with | some .string => true | _ => false
def tint (P : Program) (t : TypeId) : Option IntKind := match P.underlying t with | some (.int k) => some k | _ => none
def tbytes (P : Program) (t : TypeId) : Option Nat := (P.info? t).map (·.bytes)

theorem tsz_info {P : Program} {t : TypeId} {n : Nat} (h : tsz P t = some n) : ∃ i, P.info? t = some i ∧ i.size = n := by
  unfold tsz at h; cases hi : P.info? t with
  | none => simp [hi] at h
  | some i => exact ⟨i, rfl, by simpa [hi] using h⟩
theorem telem_und {P : Program} {t e : TypeId} (h : telem P t = some e) : P.underlying t = some (.slice e) := by
  unfold telem at h; split at h
  · rename_i e' he; simp only [Option.some.injEq] at h; subst h; exact he
  · cases h
theorem tarr_und {P : Program} {t e : TypeId} {n : Nat} (h : tarr P t = some (n, e)) : P.underlying t = some (.array n e) := by
  unfold tarr at h; split at h
  · rename_i m e' he; simp only [Option.some.injEq, Prod.mk.injEq] at h; obtain ⟨rfl, rfl⟩ := h; exact he
  · cases h
theorem tint_und {P : Program} {t : TypeId} {k : IntKind} (h : tint P t = some k) : P.underlying t = some (.int k) := by
  unfold tint at h; split at h
  · rename_i k' he; simp only [Option.some.injEq] at h; subst h; exact he
  · cases h
theorem tstr_und {P : Program} {t : TypeId} (h : tstr P t = true) : P.underlying t = some .string := by
  unfold tstr at h; split at h
  · assumption
  · cases h
theorem tfield_und {P : Program} {t ft : TypeId} {i off : Nat} (h : tfield P t i = some (off, ft)) : ∃ fs f, P.underlying t = some (.struct fs) ∧ fs[i]? = some f ∧ f.offset = off ∧ f.type = ft := by
  unfold tfield at h; split at h
  · rename_i fs he
    simp only [Option.map_eq_some_iff, Prod.mk.injEq] at h
    obtain ⟨f, h1, h2, h3⟩ := h
    exact ⟨fs, f, he, h1, h2, h3⟩
  · cases h

theorem run_sizeOf {P : Program} {t : TypeId} {n : Nat} (h : tsz P t = some n) (w : World) : (sizeOf t).run P w = .ok n w := by
  obtain ⟨i, hi, rfl⟩ := tsz_info h
  simp [sizeOf, typeInfo, hi]

theorem run_isAgg {P : Program} {t : TypeId} {b : Bool} (h : tagg P t = some b) (w : World) : (isAgg t).run P w = .ok b w := by
  unfold tagg at h
  cases hu : P.underlying t with
  | none => simp [hu] at h
  | some d =>
    simp only [hu, Option.map_some, Option.some.injEq] at h
    subst h
    simp only [isAgg, underlying, Sem.run_bind, run_program, Result.andThen_ok, hu, Sem.run_pure]
    cases d <;> rfl

theorem add_none (b o n : Nat) : (⟨b, o, none⟩ : Addr).add n = ⟨b, o + n, none⟩ := by unfold Addr.add; split <;> simp_all

/-- What lies at a place, read as a variable of a type. -/
theorem run_loadVar_at {P : Program} {t : TypeId} {n : Nat} {ag : Bool} (hs : tsz P t = some n) (ha : tagg P t = some ag) (w : World) (b o : Nat) (f : Nat → Value)
    (h : ∀ k, k < (if ag then n else 1) → w.cell? ⟨b, o + k, none⟩ = some (f k)) :
    (loadVar t ⟨b, o, none⟩).run P w = .ok (if ag then .agg ((List.range n).map f).toArray else f 0) w := by
  unfold loadVar
  simp only [Sem.run_bind, run_isAgg ha, Result.andThen_ok]
  cases ag with
  | true =>
    have hl := run_loadCells (P := P) w ⟨b, o, none⟩ n f (fun j hj => by rw [add_none]; exact h j (by simpa using hj))
    simp only [if_true, Sem.run_bind, run_sizeOf hs, Result.andThen_ok, hl, Sem.run_pure]
  | false =>
    have := h 0 (by simp)
    simp only [Nat.add_zero] at this
    simp [run_load, this]

/-- Pure data of an abstract cell. -/
def low : C → Option D
  | .d x => some x
  | .full es => some (.sl es)
  | .app es _ => some (.sl es)
  | _ => none

theorem RepC.low {w : World} {W : WSet} {E : Env} {c : C} {v : Value} {x : D} (h : RepC w W E c v) (hl : low c = some x) : RepD w W x v := by
  cases c <;> simp only [Av.low, Option.some.injEq, reduceCtorEq] at hl
  · subst hl; exact h
  · subst hl; exact h.1
  · subst hl; exact h.1

/-- The elements of a slice that is read. -/
def slElems : A → Option (List (List D))
  | .one (.d (.sl es)) => some es
  | .one (.full es) => some es
  | .one (.app es _) => some es
  | _ => none

theorem slElems_rep {w : World} {W : WSet} {E : Env} {r : A} {v : Value} {es : List (List D)} (h : RepA w W E r v) (he : slElems r = some es) : RepD w W (.sl es) v := by
  cases h with
  | one c v h =>
    cases c with
    | d x => cases x <;> simp [slElems] at he; subst he; exact h
    | full es' => simp [slElems] at he; subst he; exact h.1
    | app es' k => simp [slElems] at he; subst he; exact h.1
    | _ => simp [slElems] at he
  | _ => simp [slElems] at he

/-- A run that ends in one value, in a state that is met. -/
def OpOK (P : Program) (x : Ent) (s : St) (a : Act) (w : World) (m : Sem Next) (K : A → St → Prop) : Prop :=
  ∃ v w' r s', (m.run P w = .ok (.value v) w' ∨ (m.run P w = .ok .skip w' ∧ v = undef)) ∧ RepSV P x s' a w' r v ∧ K r s' ∧ s'.m = s.m

theorem OpOK.pure {P : Program} {x : Ent} {s : St} {a : Act} {w : World} {m : Sem Next} {K : A → St → Prop} (h : RepSt P x s a w) {r : A} {v : Value}
    (hm : m.run P w = .ok (.value v) w) (hr : ∀ E, RepE P x s w E → (∀ i, RepA w (Wn x s E) E (s.t i) (a.tmps.getD i undef)) → RepA w (Wn x s E) E r v) (hK : K r s) : OpOK P x s a w m K :=
  ⟨v, w, r, s, .inl hm, h.sv hr, hK, rfl⟩

section ops
variable (P : Program) (s : St)

def aLoadCells (cs : List C) (ag : Bool) (sz : Nat) (K : A → Prop) : Prop :=
  match ag with
  | true => sz ≤ cs.length ∧ K (.agg (cs.take sz))
  | false => match cs with | c :: _ => K (.one c) | [] => False

def aLoad (t : TypeId) (x : Operand) (K : A → St → Prop) : Prop :=
  match tagg P t, tsz P t, aeval s x with
  | some ag, some sz, .one (.ref id off) => (match s.h id with | some cs => aLoadCells (cs.drop off) ag sz (K · s) | none => False)
  | some ag, some sz, .one (.d (.pp ds)) => aLoadCells (ds.map C.d) ag sz (K · s)
  | _, _, _ => False

def aStore (t : TypeId) (x y : Operand) (K : A → St → Prop) : Prop :=
  match tsz P t, aeval s x, (aeval s y).cells with
  | some sz, .one (.ref id off), some ys => (match s.h id with | some cs => ys.length = sz ∧ off + ys.length ≤ cs.length ∧ K (.tup []) (s.write id (rpl cs off ys)) | none => False)
  | _, _, _ => False

def aAlloc (e : TypeId) (K : A → St → Prop) : Prop :=
  match tzero P e with
  | some cs => K (.one (.ref s.n 0)) (s.new cs)
  | none => False

def aBox (v : Operand) (K : A → St → Prop) : Prop :=
  match (aeval s v).cells with
  | some cs => K (.one (.ref s.n 0)) (s.new cs)
  | none => False

def aFieldAddr (t : TypeId) (x : Operand) (i : Nat) (K : A → St → Prop) : Prop :=
  match tfield P t i with
  | some (off, ft) => (match tsz P ft with
    | some (_ + 1) => (match aeval s x with
      | .one (.ref id o) => K (.one (.ref id (o + off))) s
      | .one (.d (.pp ds)) => K (.one (.d (.pp (ds.drop off)))) s
      | _ => False)
    | _ => False)
  | none => False

def aIndexAddr (t : TypeId) (x ix : Operand) (K : A → St → Prop) : Prop :=
  match aeval s ix with
  | .one (.d (.v (.int _ i))) =>
    (match telem P t with
    | some e => (match tsz P e with
      | some sz => (match slElems (aeval s x) with
        | some es => 0 ≤ i ∧ (match es[i.toNat]? with | some c => c.length = sz ∧ K (.one (.d (.pp c))) s | none => False)
        | none => (match aeval s x with
          | .one (.msl id off len _ sz') => 0 ≤ i ∧ i < len ∧ sz' = sz ∧ K (.one (.ref id (off + i.toNat * sz))) s
          | _ => False))
      | none => False)
    | none => (match tarr P t with
      | some (n, e) => (match tsz P e with
        | some sz => 0 ≤ i ∧ i < n ∧ (match aeval s x with
          | .one (.ref id o) => K (.one (.ref id (o + i.toNat * sz))) s
          | .one (.d (.pp ds)) => K (.one (.d (.pp (ds.drop (i.toNat * sz))))) s
          | _ => False)
        | none => False)
      | none => False))
  | _ => False

def aPart (e : TypeId) (cs : List C) (off : Nat) (K : A → St → Prop) : Prop :=
  match tagg P e, tsz P e with
  | some true, some sz => off + sz ≤ cs.length ∧ K (.agg ((cs.drop off).take sz)) s
  | some false, some _ => (match cs[off]? with | some c => K (.one c) s | none => False)
  | _, _ => False

def aField (t : TypeId) (x : Operand) (i : Nat) (K : A → St → Prop) : Prop :=
  match tfield P t i, aeval s x with
  | some (off, ft), .agg cs => aPart P s ft cs off K
  | _, _ => False

def aIndex (t : TypeId) (x ix : Operand) (K : A → St → Prop) : Prop :=
  match aeval s ix, aeval s x with
  | .one (.d (.v (.int _ i))), .one (.d (.s l)) => tstr P t = true ∧ 0 ≤ i ∧ (match l[i.toNat]? with | some b => K (.one (.d (.v (.int .u8 b.toNat)))) s | none => False)
  | .one (.d (.v (.int _ i))), .agg cs => (match tarr P t with
    | some (n, e) => (match tsz P e with | some sz => 0 ≤ i ∧ i < n ∧ aPart P s e cs (i.toNat * sz) K | none => False)
    | none => False)
  | _, _ => False

def aExtract (x : Operand) (i : Nat) (K : A → St → Prop) : Prop :=
  match aeval s x with
  | .tup as => (match as[i]? with | some r => K r s | none => False)
  | _ => False

end ops

section sound
variable {P : Program} {x : Ent} {s : St} {a : Act} {w : World} {K : A → St → Prop}

theorem eval_sv (h : RepSt P x s a w) (o : Operand) : RepSV P x s a w (aeval s o) (a.eval o) := h.sv fun _ _ ht => aeval_rep ht o

theorem one_inv {W : WSet} {E : Env} {c : C} {v : Value} (h : RepA w W E (.one c) v) : RepC w W E c v := by cases h; assumption
theorem agg_inv {W : WSet} {E : Env} {cs : List C} {v : Value} (h : RepA w W E (.agg cs) v) : ∃ vs : List Value, v = .agg vs.toArray ∧ vs.length = cs.length ∧ ∀ (k : Nat) (c : C), cs[k]? = some c → RepC w W E c (vs.getD k undef) := by
  cases h with | agg _ vs hl h => exact ⟨vs, rfl, hl, h⟩
theorem v_inv {W : WSet} {E : Env} {u v : Value} (h : RepA w W E (.one (.d (.v u))) v) : v = u := by cases one_inv h; rfl
theorem s_inv {W : WSet} {E : Env} {l : List UInt8} {v : Value} (h : RepA w W E (.one (.d (.s l))) v) : v = .string ⟨l.toArray⟩ := by cases one_inv h; rfl

theorem aLoadCells_sound (t : TypeId) (cs : List C) (ag : Bool) (sz : Nat) (hs : tsz P t = some sz) (ha : tagg P t = some ag) (K : A → Prop) (hK : aLoadCells cs ag sz K)
    (b o : Nat) (W : WSet) (E : Env) (f : Nat → Value) (h : ∀ (k : Nat) (c : C), cs[k]? = some c → w.cell? ⟨b, o + k, none⟩ = some (f k) ∧ RepC w W E c (f k)) :
    ∃ v r, (loadVar t ⟨b, o, none⟩).run P w = .ok v w ∧ RepA w W E r v ∧ K r ∧
      (∀ W' E', (∀ (k : Nat) (c : C), cs[k]? = some c → RepC w W' E' c (f k)) → RepA w W' E' r v) := by
  unfold aLoadCells at hK
  cases ag with
  | true =>
    simp only [] at hK
    obtain ⟨hl, hK⟩ := hK
    have hall : ∀ W' E', (∀ (k : Nat) (c : C), cs[k]? = some c → RepC w W' E' c (f k)) → RepA w W' E' (.agg (cs.take sz)) (.agg ((List.range sz).map f).toArray) := fun W' E' h' => by
      refine .agg _ _ (by simp; omega) fun k c hk => ?_
      rw [List.getElem?_take] at hk
      split at hk
      · rename_i hlt
        have : ((List.range sz).map f).getD k undef = f k := by simp [hlt]
        rw [this]
        exact h' k c hk
      · cases hk
    refine ⟨_, _, run_loadVar_at hs ha w b o f (fun k hk => ?_), hall W E (fun k c hk => (h k c hk).2), hK, hall⟩
    simp only [if_true] at hk
    exact (h k _ (List.getElem?_eq_getElem (by omega))).1
  | false =>
    cases cs with
    | nil => exact hK.elim
    | cons c rest =>
      simp only [] at hK
      obtain ⟨h1, h2⟩ := h 0 c rfl
      refine ⟨_, _, run_loadVar_at hs ha w b o f (fun k hk => ?_), .one _ _ h2, hK, fun W' E' h' => .one _ _ (h' 0 c rfl)⟩
      have : k = 0 := by simpa using hk
      subst this
      exact h1

theorem aLoad_sound (h : RepSt P x s a w) {t : TypeId} {y : Operand} (hK : aLoad P s t y K) : OpOK P x s a w (do pure (.value (← Instr.loadAt t (a.eval y)))) K := by
  unfold aLoad at hK
  have he : ∀ E, _ → RepA w (Wn x s E) E (aeval s y) (a.eval y) := fun E ht => aeval_rep ht y
  obtain ⟨h1, h2, E, h3, h4⟩ := h
  have hy := he E h4
  split at hK
  · rename_i ag sz id off ha hs hev
    rw [hev] at hy
    have hc := one_inv hy
    obtain ⟨_, hval⟩ := hc
    split at hK
    · rename_i cs hcs
      obtain ⟨_, vs, ty, hb, hsz, hrep⟩ := h3.box id cs hcs
      obtain ⟨v, r, hrun, hr, hk, _⟩ := aLoadCells_sound (w := w) t (cs.drop off) ag sz hs ha (K · s) hK (E.β id) off (Wn x s E) E (fun k => vs.getD (off + k) undef) (fun k c hkc => by
        rw [List.getElem?_drop] at hkc
        refine ⟨?_, hrep _ c hkc⟩
        rw [cell_of_row w (E.β id) (off + k) vs ty (0, 0) hb]
        have : off + k < vs.size := by rw [hsz]; exact (List.getElem?_eq_some_iff.1 hkc).1
        simp [this])
      refine ⟨v, w, r, s, .inl ?_, ⟨h1, h2, E, h3, h4, hr⟩, hk, rfl⟩
      rw [hval]
      simp [Instr.loadAt, Instr.sureAddr, hrun]
    · exact hK.elim
  · rename_i ag sz ds ha hs hev
    rw [hev] at hy
    have hc := one_inv hy
    generalize hval : a.eval y = va at hc
    cases hc with
    | pp _ b off f hcell hrep =>
      obtain ⟨v, r, hrun, hr, hk, _⟩ := aLoadCells_sound (w := w) t (ds.map C.d) ag sz hs ha (K · s) hK b off (Wn x s E) E f (fun k c hkc => by
        rw [List.getElem?_map, Option.map_eq_some_iff] at hkc
        obtain ⟨d, hd, rfl⟩ := hkc
        exact ⟨(hcell k (List.getElem?_eq_some_iff.1 hd).1).1, hrep k d hd⟩)
      refine ⟨v, w, r, s, .inl ?_, ⟨h1, h2, E, h3, h4, hr⟩, hk, rfl⟩
      simp [Instr.loadAt, Instr.sureAddr, hrun]
  · exact hK.elim

theorem values_of_cells {W : WSet} {E : Env} {r : A} {v : Value} {ys : List C} (h : RepA w W E r v) (hc : r.cells = some ys) :
    v.cells.toList.length = ys.length ∧ ∀ (k : Nat) (c : C), ys[k]? = some c → RepC w W E c (v.cells.toList.getD k undef) := by
  obtain ⟨h1, h2⟩ := h.cells hc
  refine ⟨by simpa using h1, fun k c hk => ?_⟩
  obtain ⟨u, hu, hr⟩ := h2 k c hk
  have : v.cells.toList.getD k undef = u := by rw [List.getD_eq_getElem?_getD]; simp [hu]
  rw [this]; exact hr

theorem aStore_sound (hx : x.ok) (h : RepSt P x s a w) {t : TypeId} {y z : Operand} (hK : aStore P s t y z K) : OpOK P x s a w (do (Instr.storeAt t (a.eval y) (a.eval z)); pure .skip) K := by
  unfold aStore at hK
  have h0 := h
  obtain ⟨h1, h2, E, h3, h4⟩ := h
  have hy := aeval_rep h4 y
  have hz := aeval_rep h4 z
  split at hK
  · rename_i sz id off ys hs hev hcells
    rw [hev] at hy
    obtain ⟨_, hval⟩ := one_inv hy
    split at hK
    · rename_i cs hcs
      obtain ⟨hl, hf, hk⟩ := hK
      obtain ⟨hl2, hrep⟩ := values_of_cells hz hcells
      obtain ⟨old, ty, hb, hfit, h1c, hst⟩ := RepSt.write hx h0 id off cs ys hcs hf E h3 h4 (a.eval z).cells.toList hl2 hrep
      have hrun := run_storeCells_at P (E.β id) off ty (a.eval z).cells.toList 0 old w hb (by simpa using hfit) h1c
      simp only [Nat.add_zero] at hrun
      refine ⟨undef, _, .tup [], _, .inr ⟨?_, rfl⟩, hst.sv fun _ _ _ => .tup [] [] rfl (by simp), hk, rfl⟩
      have hsz2 : (a.eval z).cells.size = sz := by have := hl2; simp at this; omega
      rw [hval]
      simp [Instr.storeAt, Instr.sureAddr, storeVar, run_sizeOf hs, hsz2, hrun]
    · exact hK.elim
  · exact hK.elim

theorem aAlloc_sound (hx : x.ok) (h : RepSt P x s a w) {e : TypeId} (hK : aAlloc P s e K) : OpOK P x s a w (do pure (.value (← Instr.alloc e true (.tuple #[])))) K := by
  unfold aAlloc at hK
  split at hK
  · rename_i cs hz
    unfold tzero at hz
    cases hi : P.info? e with
    | none => simp [hi] at hz
    | some i =>
      cases hzz : i.zero with
      | none => simp [hi, hzz] at hz
      | some v =>
        simp only [hi, hzz, Option.bind_some] at hz
        have hrep : ∀ (W : WSet) (E : Env), v.cells.toList.length = cs.length ∧ ∀ (k : Nat) (c : C), cs[k]? = some c → RepC w W E c (v.cells.toList.getD k undef) := fun W E => values_of_cells (.aval v) hz
        refine ⟨_, _, _, _, .inl ?_, RepSV.new hx h cs v.cells e (by have := (hrep (fun _ _ => False) x.E0).1; simpa using this) (fun E _ _ k c hk => ?_), hK, rfl⟩
        · simp [Instr.alloc, zeroValue, typeInfo, hi, hzz, newVar, newRow]
        · have := (hrep (Wn x s E) E).2 k c hk
          rwa [List.getD_eq_getElem?_getD, Array.getElem?_toList, ← Array.getD_eq_getD_getElem?] at this
  · exact hK.elim

theorem aBox_sound (hx : x.ok) (h : RepSt P x s a w) {e : TypeId} {y : Operand} (hK : aBox s y K) : OpOK P x s a w (do pure (.value (← Instr.box e (a.eval y)))) K := by
  unfold aBox at hK
  split at hK
  · rename_i cs hc
    have hlen : (a.eval y).cells.size = cs.length := by
      obtain ⟨_, _, E, _, h4⟩ := h
      have := (values_of_cells (aeval_rep h4 y) hc).1
      simpa using this
    refine ⟨_, _, _, _, .inl ?_, RepSV.new hx h cs (a.eval y).cells e hlen (fun E _ h4 k c hk => ?_), hK, rfl⟩
    · simp [Instr.box, newVar, newRow]
    · have := (values_of_cells (aeval_rep h4 y) hc).2 k c hk
      rwa [List.getD_eq_getElem?_getD, Array.getElem?_toList, ← Array.getD_eq_getD_getElem?] at this
  · exact hK.elim

theorem aFieldAddr_sound (h : RepSt P x s a w) {t : TypeId} {y : Operand} {i : Nat} (hK : aFieldAddr P s t y i K) : OpOK P x s a w (do pure (.value (← Instr.fieldAt t (a.eval y) i))) K := by
  unfold aFieldAddr at hK
  split at hK
  · rename_i off ft hf
    split at hK
    · rename_i n hn
      obtain ⟨fs, f, hu, hfi, rfl, rfl⟩ := tfield_und hf
      have hrun : ∀ b o, (Instr.fieldAt t (.pointer (some ⟨b, o, none⟩)) i).run P w = .ok (.pointer (some ⟨b, o + f.offset, none⟩)) w := fun b o => by
        simp [Instr.fieldAt, run_underlying hu, hfi, Instr.sureAddr, fieldPlace, run_sizeOf hn, add_none]
      split at hK
      · rename_i id o hev
        have hv : ∀ E, (∀ i, RepA w (Wn x s E) E (s.t i) (a.tmps.getD i undef)) → id < E.n ∧ a.eval y = .pointer (some ⟨E.β id, o, none⟩) := fun E h4 => by
          have := aeval_rep h4 y; rw [hev] at this; exact one_inv this
        obtain ⟨h1, h2, E, h3, h4⟩ := h
        obtain ⟨hlt, hval⟩ := hv E h4
        refine ⟨.pointer (some ⟨E.β id, o + f.offset, none⟩), w, .one (.ref id (o + f.offset)), s, .inl ?_, ⟨h1, h2, E, h3, h4, .one _ _ ⟨hlt, rfl⟩⟩, hK, rfl⟩
        rw [hval]; simp [hrun]
      · rename_i ds hev
        obtain ⟨h1, h2, E, h3, h4⟩ := h
        have hy := aeval_rep h4 y
        rw [hev] at hy
        generalize hval : a.eval y = va at hy
        cases one_inv hy with
        | pp _ b o g hcell hrep =>
          refine ⟨.pointer (some ⟨b, o + f.offset, none⟩), w, _, s, .inl ?_, ⟨h1, h2, E, h3, h4, .one _ _ ?_⟩, hK, rfl⟩
          · simp [hrun]
          · refine RepD.pp _ b (o + f.offset) (fun k => g (f.offset + k)) (fun k hk => ?_) (fun k c hk => ?_)
            · rw [List.length_drop] at hk
              have := hcell (f.offset + k) (by omega)
              rwa [Nat.add_assoc]
            · rw [List.getElem?_drop] at hk
              exact hrep _ c hk
      · exact hK.elim
    · exact hK.elim
  · exact hK.elim

theorem flat_at {es : List (List D)} {sz i : Nat} {c : List D} (h : ∀ e ∈ es, e.length = sz) (hc : es[i]? = some c) (k : Nat) (hk : k < sz) : es.flatten[i * sz + k]? = c[k]? := by
  induction es generalizing i with
  | nil => simp at hc
  | cons e es ih =>
    have hel := h e (List.mem_cons_self ..)
    cases i with
    | zero =>
      simp at hc; subst hc
      rw [List.flatten_cons, Nat.zero_mul, Nat.zero_add, List.getElem?_append_left (by omega)]
    | succ i =>
      simp at hc
      rw [List.flatten_cons, List.getElem?_append_right (by rw [hel, Nat.succ_mul]; omega), hel, show (i + 1) * sz + k - sz = i * sz + k by rw [Nat.succ_mul]; omega]
      exact ih (fun x hx => h x (List.mem_cons_of_mem _ hx)) hc

theorem aIndexAddr_sound (h : RepSt P x s a w) {t : TypeId} {y ix : Operand} (hK : aIndexAddr P s t y ix K) : OpOK P x s a w (do pure (.value (← Instr.indexAt t (a.eval y) (a.eval ix)))) K := by
  unfold aIndexAddr at hK
  obtain ⟨h1, h2, E, h3, h4⟩ := h
  have hy := aeval_rep h4 y
  have hi := aeval_rep h4 ix
  split at hK
  · rename_i k i hev
    rw [hev] at hi
    have hiv := v_inv hi
    rw [hiv]
    split at hK
    · rename_i e het
      have hu := telem_und het
      split at hK
      · rename_i sz hs
        split at hK
        · rename_i es hes
          have hd := slElems_rep hy hes
          obtain ⟨hi0, hK⟩ := hK
          split at hK
          · rename_i c hc
            obtain ⟨hcl, hK⟩ := hK
            have hilt : i.toNat < es.length := (List.getElem?_eq_some_iff.1 hc).1
            generalize a.eval y = va at hd
            cases hd with
            | nil => simp at hilt
            | sl _ sz' b off cap f hsz hcap hcell hrep =>
              have hsz' : sz' = sz := by rw [← hcl]; exact (hsz c (List.mem_of_getElem? hc)).symm
              subst hsz'
              have hfl := length_flat hsz
              have hmul : i.toNat * sz' + sz' ≤ es.length * sz' := by rw [← Nat.succ_mul]; exact Nat.mul_le_mul_right _ hilt
              refine ⟨.pointer (some ⟨b, off + i.toNat * sz', none⟩), w, _, s, .inl ?_, ⟨h1, h2, E, h3, h4, .one _ _ ?_⟩, hK, rfl⟩
              · have h5 : (i : Int) < es.length := by omega
                simp [Instr.indexAt, asIntOf, run_underlying hu, hi0, h5, run_sizeOf hs, add_none]
              · refine RepD.pp c b (off + i.toNat * sz') (fun k => f (i.toNat * sz' + k)) (fun k hk => ?_) (fun k d hk => ?_)
                · have := hcell (i.toNat * sz' + k) (by rw [hfl]; omega)
                  rwa [← Nat.add_assoc] at this
                · have hkl : k < sz' := by rw [← hcl]; exact (List.getElem?_eq_some_iff.1 hk).1
                  exact hrep _ d (by rw [flat_at hsz hc k hkl]; exact hk)
          · exact hK.elim
        · split at hK
          · rename_i id off len cap sz' hev2
            obtain ⟨hi0, hil, rfl, hK⟩ := hK
            rw [hev2] at hy
            obtain ⟨hlt, hval⟩ := one_inv hy
            rw [hval]
            refine ⟨.pointer (some ⟨E.β id, off + i.toNat * sz', none⟩), w, .one (.ref id (off + i.toNat * sz')), s, .inl ?_, ⟨h1, h2, E, h3, h4, .one _ _ ⟨hlt, rfl⟩⟩, hK, rfl⟩
            simp [Instr.indexAt, asIntOf, run_underlying hu, hi0, hil, run_sizeOf hs, add_none]
          · exact hK.elim
      · exact hK.elim
    · split at hK
      · rename_i n e hte
        have hu := tarr_und hte
        split at hK
        · rename_i sz hs
          obtain ⟨hi0, hil, hK⟩ := hK
          have hrun : ∀ b o, (Instr.indexAt t (.pointer (some ⟨b, o, none⟩)) (.int k i)).run P w = .ok (.pointer (some ⟨b, o + i.toNat * sz, none⟩)) w := fun b o => by
            simp [Instr.indexAt, asIntOf, run_underlying hu, hi0, hil, run_sizeOf hs, add_none, Instr.sureAddr]
          split at hK
          · rename_i id o hev2
            rw [hev2] at hy
            obtain ⟨hlt, hval⟩ := one_inv hy
            rw [hval]
            refine ⟨.pointer (some ⟨E.β id, o + i.toNat * sz, none⟩), w, .one (.ref id (o + i.toNat * sz)), s, .inl ?_, ⟨h1, h2, E, h3, h4, .one _ _ ⟨hlt, rfl⟩⟩, hK, rfl⟩
            simp [hrun]
          · rename_i ds hev2
            rw [hev2] at hy
            generalize a.eval y = va at hy
            cases one_inv hy with
            | pp _ b o g hcell hrep =>
              refine ⟨.pointer (some ⟨b, o + i.toNat * sz, none⟩), w, _, s, .inl ?_, ⟨h1, h2, E, h3, h4, .one _ _ ?_⟩, hK, rfl⟩
              · simp [hrun]
              · refine RepD.pp _ b (o + i.toNat * sz) (fun k => g (i.toNat * sz + k)) (fun k hk => ?_) (fun k c hk => ?_)
                · rw [List.length_drop] at hk
                  have := hcell (i.toNat * sz + k) (by omega)
                  rwa [Nat.add_assoc]
                · rw [List.getElem?_drop] at hk
                  exact hrep _ c hk
          · exact hK.elim
        · exact hK.elim
      · exact hK.elim
  · exact hK.elim

theorem aPart_sound (h : RepSt P x s a w) {e : TypeId} {cs : List C} {off : Nat} {vs : List Value} (hl : vs.length = cs.length)
    (hrep : ∀ E, RepE P x s w E → (∀ i, RepA w (Wn x s E) E (s.t i) (a.tmps.getD i undef)) → ∀ (k : Nat) (c : C), cs[k]? = some c → RepC w (Wn x s E) E c (vs.getD k undef))
    (hK : aPart P s e cs off K) : OpOK P x s a w (do pure (.value (← part e vs.toArray off))) K := by
  unfold aPart at hK
  split at hK
  · rename_i sz ha hs
    obtain ⟨hle, hK⟩ := hK
    refine OpOK.pure h (v := .agg ((vs.drop off).take sz).toArray) ?_ (fun E h3 h4 => ?_) hK
    · simp only [part, Sem.run_bind, run_isAgg ha, Result.andThen_ok, if_true, run_sizeOf hs, Sem.run_pure]
      congr 3
      simp
    · refine .agg _ _ (by simp [hl]) fun k c hk => ?_
      rw [List.getElem?_take] at hk
      split at hk
      · rename_i hlt
        rw [List.getElem?_drop] at hk
        have : ((vs.drop off).take sz).getD k undef = vs.getD (off + k) undef := by
          simp [List.getD_eq_getElem?_getD, hlt]
        rw [this]
        exact hrep E h3 h4 _ c hk
      · cases hk
  · rename_i n ha hs
    split at hK
    · rename_i c hc
      have hlt : off < vs.length := by rw [hl]; exact (List.getElem?_eq_some_iff.1 hc).1
      refine OpOK.pure h (v := vs.getD off undef) ?_ (fun E h3 h4 => .one _ _ (hrep E h3 h4 off c hc)) hK
      simp [part, run_isAgg ha, hlt]
    · exact hK.elim
  · exact hK.elim

theorem aField_sound (h : RepSt P x s a w) {t : TypeId} {y : Operand} {i : Nat} (hK : aField P s t y i K) : OpOK P x s a w (do pure (.value (← Instr.field t (a.eval y) i))) K := by
  unfold aField at hK
  split at hK
  · rename_i off ft cs hf hev
    obtain ⟨fs, f, hu, hfi, rfl, rfl⟩ := tfield_und hf
    obtain ⟨vs, hval, hl⟩ : ∃ vs : List Value, a.eval y = .agg vs.toArray ∧ vs.length = cs.length := by
      obtain ⟨_, _, E, _, h4⟩ := h
      have hy := aeval_rep h4 y
      rw [hev] at hy
      obtain ⟨vs, h1, h2, _⟩ := agg_inv hy
      exact ⟨vs, h1, h2⟩
    have := aPart_sound h hl (fun E _ h4 => by
      have hy := aeval_rep h4 y
      rw [hev, hval] at hy
      obtain ⟨vs', h1, _, h3⟩ := agg_inv hy
      have : vs = vs' := by simpa using h1
      subst this; exact h3) hK
    have e : (do pure (.value (← Instr.field t (a.eval y) i)) : Sem Next).run P w = (do pure (.value (← part f.type vs.toArray f.offset)) : Sem Next).run P w := by
      rw [hval]
      simp [Instr.field, run_underlying hu, hfi, asAgg]
    unfold OpOK at *
    rw [e]; exact this
  · exact hK.elim

theorem aIndex_sound (h : RepSt P x s a w) {t : TypeId} {y ix : Operand} (hK : aIndex P s t y ix K) : OpOK P x s a w (do pure (.value (← Instr.index t (a.eval y) (a.eval ix)))) K := by
  unfold aIndex at hK
  split at hK
  · rename_i k i l hi hy
    obtain ⟨ht, hi0, hK⟩ := hK
    have hu := tstr_und ht
    have hval : a.eval y = .string ⟨l.toArray⟩ ∧ a.eval ix = .int k i := by
      obtain ⟨_, _, E, _, h4⟩ := h
      have h5 := aeval_rep h4 y
      have h6 := aeval_rep h4 ix
      rw [hy] at h5; rw [hi] at h6
      exact ⟨s_inv h5, v_inv h6⟩
    split at hK
    · rename_i b hb
      refine OpOK.pure h (v := .int .u8 b.toNat) ?_ (fun E _ _ => RepA.v _ rfl) hK
      have hlt : i.toNat < l.length := (List.getElem?_eq_some_iff.1 hb).1
      have hsz : (⟨l.toArray⟩ : ByteArray).size = l.length := by simp [ByteArray.size]
      have hget : (⟨l.toArray⟩ : ByteArray)[i.toNat]? = some b := by
        rw [ByteArray.getElem?_lt' _ _ (by rw [hsz]; exact hlt)]
        congr 1
        have := (List.getElem?_eq_some_iff.1 hb).2
        show l.toArray[i.toNat] = b
        simpa using this
      rw [hval.1, hval.2]
      simp [Instr.index, asIntOf, run_underlying hu, hi0, hget]
    · exact hK.elim
  · rename_i k i cs hi hy
    split at hK
    · rename_i n e hte
      have hu := tarr_und hte
      split at hK
      · rename_i sz hs
        obtain ⟨hi0, hil, hK⟩ := hK
        obtain ⟨vs, hval, hl⟩ : ∃ vs : List Value, a.eval y = .agg vs.toArray ∧ vs.length = cs.length := by
          obtain ⟨_, _, E, _, h4⟩ := h
          have h5 := aeval_rep h4 y
          rw [hy] at h5
          obtain ⟨vs, h1, h2, _⟩ := agg_inv h5
          exact ⟨vs, h1, h2⟩
        have hiv : a.eval ix = .int k i := by
          obtain ⟨_, _, E, _, h4⟩ := h
          have h6 := aeval_rep h4 ix
          rw [hi] at h6
          exact v_inv h6
        have := aPart_sound h hl (fun E _ h4 => by
          have h5 := aeval_rep h4 y
          rw [hy, hval] at h5
          obtain ⟨vs', h1, _, h3⟩ := agg_inv h5
          have : vs = vs' := by simpa using h1
          subst this; exact h3) hK
        have e : (do pure (.value (← Instr.index t (a.eval y) (a.eval ix))) : Sem Next).run P w = (do pure (.value (← part e vs.toArray (i.toNat * sz))) : Sem Next).run P w := by
          rw [hval, hiv]
          simp [Instr.index, asIntOf, run_underlying hu, hi0, hil, run_sizeOf hs]
        unfold OpOK at *
        rw [e]; exact this
      · exact hK.elim
    · exact hK.elim
  · exact hK.elim

theorem aExtract_sound (h : RepSt P x s a w) {y : Operand} {i : Nat} (hK : aExtract s y i K) : OpOK P x s a w (do pure (.value (← Instr.extract (a.eval y) i))) K := by
  unfold aExtract at hK
  obtain ⟨h1, h2, E, h3, h4⟩ := h
  have hy := aeval_rep h4 y
  split at hK
  · rename_i as hev
    rw [hev] at hy
    generalize a.eval y = va at hy
    split at hK
    · rename_i r hr
      cases hy with
      | tup _ vs hl hrep =>
        have hlt : i < vs.length := by rw [hl]; exact (List.getElem?_eq_some_iff.1 hr).1
        refine ⟨vs.getD i undef, w, r, s, .inl ?_, ⟨h1, h2, E, h3, h4, hrep i r hr⟩, hK, rfl⟩
        simp [Instr.extract, hlt]
    · exact hK.elim
  · exact hK.elim

end sound
end Go.Av
