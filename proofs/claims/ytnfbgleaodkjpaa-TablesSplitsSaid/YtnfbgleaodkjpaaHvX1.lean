/-
  Operations over abstract states, run: what each gives, as far as it can be told. Over any program. No toy.
-/
import Derived.Test.YtnfbgleaodkjpaaHvDraw
set_option linter.all false
namespace Go.Av
open Go.RowKit

/-- The kind of a cell. -/
inductive CK where
  | int (k : IntKind) | bool | str | sl | other

inductive TK where
  | int (k : IntKind) | bool | str | slice (e : TypeId) | arr (n : Nat) (e : TypeId) | struct (fs : List (Nat × TypeId × Nat)) | map | other

/-- What is known of a type. -/
structure TI where
  sz : Nat
  agg : Bool
  by_ : Nat
  zero : List C
  cks : List CK
  kind : TK

abbrev TT := TypeId → Option TI

def TK.ok (P : Program) (t : TypeId) : TK → Prop
  | .int k => tint P t = some k ∧ telem P t = none ∧ tarr P t = none
  | .bool => tbool P t = true ∧ telem P t = none ∧ tarr P t = none
  | .str => tstr P t = true ∧ telem P t = none ∧ tarr P t = none
  | .slice e => telem P t = some e ∧ tarr P t = none
  | .arr n e => telem P t = none ∧ tarr P t = some (n, e) ∧ tstruct P t = none
  | .struct fs => telem P t = none ∧ tarr P t = none ∧ tstruct P t = some (fs.map fun f => (f.1, f.2.2)) ∧ (List.range fs.length).map (tfield P t) = fs.map fun f => some (f.1, f.2.1)
  | .map => tmapB P t = true
  | .other => True

structure TFact (P : Program) (t : TypeId) (i : TI) : Prop where
  sz : tsz P t = some i.sz
  agg : tagg P t = some i.agg
  by_ : tbytes P t = some i.by_
  zero : tzero P t = some i.zero
  und : (P.underlying t).isSome = true
  kind : i.kind.ok P t

def TOk (P : Program) (T : TT) : Prop := ∀ t i, T t = some i → TFact P t i

section prims
variable {R : Type}

def xif (b : Bool) (k : Option R) : Option R := match b with | true => k | false => none
@[simp] theorem xif_true (k : Option R) : xif true k = k := rfl
@[simp] theorem xif_false (k : Option R) : xif false k = none := rfl
theorem xif_some {b : Bool} {k : Option R} {r : R} : xif b k = some r ↔ b = true ∧ k = some r := by cases b <;> simp [xif]

def xite (b : Bool) (x y : Option R) : Option R := match b with | true => x | false => y
theorem xite_some {b : Bool} {x y : Option R} {r : R} (h : xite b x y = some r) : (b = true ∧ x = some r) ∨ (b = false ∧ y = some r) := by
  cases b
  · exact .inr ⟨rfl, h⟩
  · exact .inl ⟨rfl, h⟩

def cI (k : IntKind) (n : Int) : A := .one (.d (.v (.int k n)))
def xI (k : IntKind) (a : A) : Option Int := match a with | .one (.d (.v (.int k' n))) => if k' = k then some n else none | _ => none
def xIx (a : A) : Option Int := match a with | .one (.d (.v (.int _ n))) => some n | _ => none
theorem xIx_some {a : A} {n : Int} (h : xIx a = some n) : ∃ k, a = .one (.d (.v (.int k n))) := by
  unfold xIx at h
  split at h
  · simp only [Option.some.injEq] at h; subst h; exact ⟨_, rfl⟩
  · cases h
def xB (a : A) : Option Bool := match a with | .one (.d (.v (.bool b))) => some b | _ => none
def xS (a : A) : Option (List UInt8) := match a with | .one (.d (.s l)) => some l | _ => none
def xAD (a : A) : Option D := match a with | .one (.d d) => some d | _ => none
def unD : List C → Option (List D)
  | [] => some []
  | .d d :: cs => (unD cs).bind fun ds => some (d :: ds)
  | _ :: _ => none
def xADs (a : A) : Option (List D) := match a with | .agg cs => unD cs | _ => none
def xtup (a : A) (i : Nat) : Option A := match a with | .tup as => as[i]? | _ => none

theorem xI_some {k : IntKind} {a : A} {n : Int} (h : xI k a = some n) : a = .one (.d (.v (.int k n))) := by
  unfold xI at h
  split at h
  · split at h
    · rename_i e; subst e; simpa using h
    · cases h
  · cases h
theorem xB_some {a : A} {n : Bool} (h : xB a = some n) : a = .one (.d (.v (.bool n))) := by
  unfold xB at h; split at h <;> simp_all
theorem xS_some {a : A} {n : List UInt8} (h : xS a = some n) : a = .one (.d (.s n)) := by
  unfold xS at h; split at h <;> simp_all
theorem xAD_some {a : A} {d : D} (h : xAD a = some d) : a = .one (.d d) := by
  unfold xAD at h; split at h <;> simp_all
theorem unD_some : ∀ {cs : List C} {ds : List D}, unD cs = some ds → cs = ds.map C.d
  | [], ds, h => by simp [unD] at h; subst h; rfl
  | .d d :: cs, ds, h => by
    simp only [unD, Option.bind_eq_some_iff, Option.some.injEq] at h
    obtain ⟨ds', h1, rfl⟩ := h
    rw [unD_some h1]; rfl
  | .full _ :: _, _, h => by simp [unD] at h
  | .app _ _ :: _, _, h => by simp [unD] at h
  | .ref _ _ :: _, _, h => by simp [unD] at h
  | .msl _ _ _ _ _ :: _, _, h => by simp [unD] at h
  | .clo _ _ :: _, _, h => by simp [unD] at h
  | .any :: _, _, h => by simp [unD] at h
  | .hs _ _ _ :: _, _, h => by simp [unD] at h
  | .hp _ _ :: _, _, h => by simp [unD] at h
  | .hclo _ _ :: _, _, h => by simp [unD] at h
  | .mp _ :: _, _, h => by simp [unD] at h
theorem xADs_some {a : A} {ds : List D} (h : xADs a = some ds) : a = .agg (ds.map C.d) := by
  unfold xADs at h; split at h
  · rw [unD_some h]
  · cases h
theorem xtup_some {a r : A} {i : Nat} (h : xtup a i = some r) : ∃ as, a = .tup as ∧ as[i]? = some r := by
  unfold xtup at h; split at h
  · exact ⟨_, rfl, h⟩
  · cases h

def xDI (k : IntKind) (d : D) : Option Int := match d with | .v (.int k' n) => if k' = k then some n else none | _ => none
def xDB (d : D) : Option Bool := match d with | .v (.bool n) => some n | _ => none
def xDS (d : D) : Option (List UInt8) := match d with | .s n => some n | _ => none
def xDL (d : D) : Option (List (List D)) := match d with | .sl n => some n | _ => none
theorem xDI_some {k : IntKind} {d : D} {n : Int} (h : xDI k d = some n) : d = .v (.int k n) := by
  unfold xDI at h
  split at h
  · split at h
    · rename_i e; subst e; simpa using h
    · cases h
  · cases h
theorem xDB_some {d : D} {n : Bool} (h : xDB d = some n) : d = .v (.bool n) := by
  unfold xDB at h; split at h <;> simp_all
theorem xDS_some {d : D} {n : List UInt8} (h : xDS d = some n) : d = .s n := by
  unfold xDS at h; split at h <;> simp_all
theorem xDL_some {d : D} {n : List (List D)} (h : xDL d = some n) : d = .sl n := by
  unfold xDL at h; split at h <;> simp_all

/-- A pure cell of a kind, in its own form. -/
def xDn (ck : CK) (d : D) (K : D → Option R) : Option R := match ck with
  | .int k => (xDI k d).bind fun n => K (.v (.int k n))
  | .bool => (xDB d).bind fun n => K (.v (.bool n))
  | .str => (xDS d).bind fun n => K (.s n)
  | .sl => (xDL d).bind fun n => K (.sl n)
  | .other => K d
theorem xDn_some {ck : CK} {d : D} {K : D → Option R} {r : R} (h : xDn ck d K = some r) : K d = some r := by
  unfold xDn at h
  cases ck <;> simp only [Option.bind_eq_some_iff] at h
  · obtain ⟨n, h1, h2⟩ := h; rw [xDI_some h1]; exact h2
  · obtain ⟨n, h1, h2⟩ := h; rw [xDB_some h1]; exact h2
  · obtain ⟨n, h1, h2⟩ := h; rw [xDS_some h1]; exact h2
  · obtain ⟨n, h1, h2⟩ := h; rw [xDL_some h1]; exact h2
  · exact h

def xDns : List CK → Nat → List D → (List D → Option R) → Option R
  | [], _, _, K => K []
  | ck :: cks, j, ds, K => xDn ck (ds.getD j (.s [])) fun d => xDns cks (j + 1) ds fun l => K (d :: l)
theorem xDns_some : ∀ {cks : List CK} {j : Nat} {ds : List D} {K : List D → Option R} {r : R}, j + cks.length ≤ ds.length → xDns cks j ds K = some r → K ((ds.drop j).take cks.length) = some r
  | [], j, ds, K, r, _, h => by simpa [xDns] using h
  | ck :: cks, j, ds, K, r, hl, h => by
    simp only [List.length_cons] at hl
    have h1 := xDns_some (by omega) (xDn_some h)
    have hj : j < ds.length := by omega
    rw [List.drop_eq_getElem_cons hj, List.length_cons, List.take_succ_cons]
    have e : ds.getD j (.s []) = ds[j] := by simp [hj]
    rw [← e]; exact h1

/-- A cell of a box, in its own form where it is plain. -/
def xCn (ck : CK) (c : C) (K : C → Option R) : Option R := match ck with
  | .int k => (xI k (.one c)).bind fun n => K (.d (.v (.int k n)))
  | .bool => (xB (.one c)).bind fun n => K (.d (.v (.bool n)))
  | .str => (xS (.one c)).bind fun n => K (.d (.s n))
  | _ => K c
theorem xCn_some {ck : CK} {c : C} {K : C → Option R} {r : R} (h : xCn ck c K = some r) : K c = some r := by
  unfold xCn at h
  cases ck <;> simp only [Option.bind_eq_some_iff] at h
  · obtain ⟨n, h1, h2⟩ := h; have := xI_some h1; simp only [A.one.injEq] at this; rw [this]; exact h2
  · obtain ⟨n, h1, h2⟩ := h; have := xB_some h1; simp only [A.one.injEq] at this; rw [this]; exact h2
  · obtain ⟨n, h1, h2⟩ := h; have := xS_some h1; simp only [A.one.injEq] at this; rw [this]; exact h2
  · exact h
  · exact h
def xCns : List CK → Nat → List C → (List C → Option R) → Option R
  | [], _, _, K => K []
  | ck :: cks, j, ds, K => xCn ck (ds.getD j .any) fun d => xCns cks (j + 1) ds fun l => K (d :: l)
theorem xCns_some : ∀ {cks : List CK} {j : Nat} {ds : List C} {K : List C → Option R} {r : R}, j + cks.length ≤ ds.length → xCns cks j ds K = some r → K ((ds.drop j).take cks.length) = some r
  | [], j, ds, K, r, _, h => by simpa [xCns] using h
  | ck :: cks, j, ds, K, r, hl, h => by
    simp only [List.length_cons] at hl
    have h1 := xCns_some (by omega) (xCn_some h)
    have hj : j < ds.length := by omega
    rw [List.drop_eq_getElem_cons hj, List.length_cons, List.take_succ_cons]
    have e : ds.getD j .any = ds[j] := by simp [hj]
    rw [← e]; exact h1

/-- What a call gives, in its own form. -/
def xAn (oi : Option TI) (a : A) (K : A → Option R) : Option R := match oi with
  | none => K a
  | some i => match i.agg with
    | true => (xADs a).bind fun ds => xif (decide (ds.length = i.cks.length)) (xDns i.cks 0 ds fun l => K (.agg (l.map C.d)))
    | false => (xAD a).bind fun d => xDn (i.cks.headD .other) d fun d => K (.one (.d d))
theorem xAn_some {oi : Option TI} {a : A} {K : A → Option R} {r : R} (h : xAn oi a K = some r) : K a = some r := by
  unfold xAn at h
  split at h
  · exact h
  · split at h
    · simp only [Option.bind_eq_some_iff, xif_some, decide_eq_true_eq] at h
      obtain ⟨ds, h1, h2, h3⟩ := h
      have := xDns_some (by omega) h3
      rw [List.drop_zero, List.take_of_length_le (by omega)] at this
      rw [xADs_some h1]; exact this
    · simp only [Option.bind_eq_some_iff] at h
      obtain ⟨d, h1, h2⟩ := h
      rw [xAD_some h1]; exact xDn_some h2

def xibin (op : BinOp) (k : IntKind) (a b : Int) (K : Value → Option R) : Option R :=
  match op with
  | .add => K (.int k (k.wrap (a + b)))
  | .sub => K (.int k (k.wrap (a - b)))
  | .mul => K (.int k (k.wrap (a * b)))
  | .quo => xif (!decide (b = 0)) (K (.int k (k.wrap (a.tdiv b))))
  | .rem => xif (!decide (b = 0)) (K (.int k (a.tmod b)))
  | .and => K (.int k (k.wrap (BitVec.ofInt k.bits a &&& BitVec.ofInt k.bits b).toNat))
  | .or => K (.int k (k.wrap (BitVec.ofInt k.bits a ||| BitVec.ofInt k.bits b).toNat))
  | .xor => K (.int k (k.wrap (BitVec.ofInt k.bits a ^^^ BitVec.ofInt k.bits b).toNat))
  | .andNot => K (.int k (k.wrap (BitVec.ofInt k.bits a &&& ~~~BitVec.ofInt k.bits b).toNat))
  | .eql => K (.bool (decide (a = b)))
  | .neq => K (.bool (!decide (a = b)))
  | .lss => K (.bool (decide (a < b)))
  | .leq => K (.bool (decide (a ≤ b)))
  | .gtr => K (.bool (decide (b < a)))
  | .geq => K (.bool (decide (b ≤ a)))
  | _ => none
def xishift (op : BinOp) (k : IntKind) (a b : Int) (K : Value → Option R) : Option R :=
  match op with
  | .shl => xif (decide (0 ≤ b)) (K (.int k (k.wrap (a * 2 ^ (min b.toNat k.bits)))))
  | .shr => xif (decide (0 ≤ b)) (K (.int k (a.fdiv (2 ^ (min b.toNat k.bits)))))
  | _ => none
def xsbin (op : BinOp) (a b : List UInt8) (K : D → Option R) : Option R :=
  match op with
  | .add => xif (decide (a.length + b.length ≤ 9223372036854775807)) (K (.s (a ++ b)))
  | .eql => K (.v (.bool (decide (a = b))))
  | .neq => K (.v (.bool (!decide (a = b))))
  | .lss => K (.v (.bool (Op.bytesLess a b)))
  | .leq => K (.v (.bool (Op.bytesLess a b || decide (a = b))))
  | .gtr => K (.v (.bool (!(Op.bytesLess a b || decide (a = b)))))
  | .geq => K (.v (.bool (!Op.bytesLess a b)))
  | _ => none

theorem xibin_some {op : BinOp} {k : IntKind} {a b : Int} {K : Value → Option R} {Kp : Value → Prop} {r : R} (h : xibin op k a b K = some r) (hK : ∀ v, K v = some r → Kp v) : ibin op k a b Kp := by
  unfold xibin at h; unfold ibin
  cases op <;> simp only [xif_some, Bool.not_eq_true', decide_eq_false_iff_not, reduceCtorEq] at h ⊢ <;> first | exact hK _ h | exact ⟨h.1, hK _ h.2⟩
theorem xishift_some {op : BinOp} {k : IntKind} {a b : Int} {K : Value → Option R} {Kp : Value → Prop} {r : R} (h : xishift op k a b K = some r) (hK : ∀ v, K v = some r → Kp v) : ishift op k a b Kp := by
  unfold xishift at h; unfold ishift
  cases op <;> simp only [xif_some, decide_eq_true_eq, reduceCtorEq] at h ⊢ <;> exact ⟨h.1, hK _ h.2⟩
theorem xsbin_some {op : BinOp} {a b : List UInt8} {K : D → Option R} {Kp : D → Prop} {r : R} (h : xsbin op a b K = some r) (hK : ∀ v, K v = some r → Kp v) : sbin op a b Kp := by
  unfold xsbin at h; unfold sbin
  cases op <;> simp only [xif_some, decide_eq_true_eq, reduceCtorEq] at h ⊢ <;> first | exact hK _ h | exact ⟨h.1, hK _ h.2⟩

end prims
end Go.Av
