/-
  Tables as lists of lists of texts; what the words of a run give; loops.
-/
import Derived.Test.YtnfbgleaodkjpaaHtRun
import Derived.Test.YtnfbgleaodkjpaaHvLaw
set_option linter.all false
set_option linter.unusedSimpArgs false
namespace Go.Av
open Go.Proofs

/-- What the words of a run give. -/
@[simp] theorem xDI_v (k : IntKind) (n : Int) : xDI k (.v (.int k n)) = some n := by simp [xDI]
@[simp] theorem xDB_v (b : Bool) : xDB (.v (.bool b)) = some b := rfl
@[simp] theorem xDS_s (b : List UInt8) : xDS (.s b) = some b := rfl
@[simp] theorem xDL_sl (b : List (List D)) : xDL (.sl b) = some b := rfl
@[simp] theorem xAD_d (d : D) : xAD (.one (.d d)) = some d := rfl
@[simp] theorem xI_i (k : IntKind) (n : Int) : xI k (.one (.d (.v (.int k n)))) = some n := by simp [xI]
@[simp] theorem xB_b (b : Bool) : xB (.one (.d (.v (.bool b)))) = some b := rfl
@[simp] theorem unD_nil : unD [] = some [] := rfl
@[simp] theorem unD_cons (d : D) (cs : List C) : unD (.d d :: cs) = (unD cs).bind fun ds => some (d :: ds) := rfl
@[simp] theorem unD_map (l : List D) : unD (l.map C.d) = some l := by
  induction l with
  | nil => rfl
  | cons d l ih => simp [ih]
@[simp] theorem xADs_agg (cs : List C) : xADs (.agg cs) = unD cs := rfl
@[simp] theorem xtup_tup (l : List A) (i : Nat) : xtup (.tup l) i = l[i]? := rfl
@[simp] theorem xite_decide {R : Type} (p : Prop) [Decidable p] (x y : Option R) : xite (decide p) x y = if p then x else y := by
  by_cases h : p <;> simp [xite, h]
@[simp] theorem xite_not {R : Type} (b : Bool) (x y : Option R) : xite (!b) x y = xite b y x := by cases b <;> rfl
@[simp] theorem xite_true {R : Type} (x y : Option R) : xite true x y = x := rfl
@[simp] theorem xite_false {R : Type} (x y : Option R) : xite false x y = y := rfl
@[simp] theorem xif_decide {R : Type} (p : Prop) [Decidable p] (x : Option R) : xif (decide p) x = if p then x else none := by
  by_cases h : p <;> simp [xif, h]

theorem wrap_i (n : Int) (h1 : -9223372036854775808 ≤ n) (h2 : n ≤ 9223372036854775807) : IntKind.i64.wrap n = n := by rw [IntKind.wrap_i64]; omega

theorem xElem_map {α : Type} (sz : Nat) (f : α → List D) (l : List α) (k : Nat) (hk : k < l.length) (hf : ∀ a, (f a).length = sz) : xElem sz (l.map f) (k : Int) = some (f l[k]) := by
  unfold xElem
  rw [if_pos (by omega), Int.toNat_natCast]
  simp [hk, hf]
theorem xIdxS_get (l : List UInt8) (k : Nat) (hk : k < l.length) : xIdxS l (k : Int) = some l[k] := by
  unfold xIdxS
  rw [if_pos (by omega), Int.toNat_natCast]
  simp [hk]

theorem drop_some {α : Type} (l : List α) (k : Nat) (h : k < l.length) : l.drop k = l[k] :: l.drop (k + 1) := List.drop_eq_getElem_cons h
theorem nat_succ {n k : Nat} (h : k + 1 ≤ n) : ∃ m, n = m + 1 := ⟨n - 1, by omega⟩

end Go.Av
namespace Go.Av
/-- A loop whose states are numbered. -/
theorem iter_nat {X R : Type} {F : X → (X → Option R) → Option R} (N : Nat) (st : Nat → X) (g : Nat → R)
    (h : ∀ k rec, k ≤ N → (k + 1 ≤ N → rec (st (k + 1)) = some (g (k + 1))) → F (st k) rec = some (g k)) : ∀ (n k : Nat), k ≤ N → N - k < n → iter F n (st k) = some (g k)
  | 0, k, _, hn => absurd hn (Nat.not_lt_zero _)
  | n + 1, k, hk, hn => h k _ hk fun hk1 => iter_nat N st g h n (k + 1) hk1 (by omega)

theorem iter_ex {X R : Type} {F : X → (X → Option R) → Option R} (N : Nat) (I : Nat → X → Prop) (Q : R → Prop)
    (h : ∀ k x rec, k ≤ N → I k x → (∀ y, k + 1 ≤ N → I (k + 1) y → ∃ r, rec y = some r ∧ Q r) → ∃ r, F x rec = some r ∧ Q r) : ∀ (n k : Nat) (x : X), k ≤ N → N - k < n → I k x → ∃ r, iter F n x = some r ∧ Q r
  | 0, k, _, _, hn, _ => absurd hn (Nat.not_lt_zero _)
  | n + 1, k, x, hk, hn, hi => h k x _ hk hi fun y hk1 hy => iter_ex N I Q h n (k + 1) y hk1 (by omega) hy

theorem iter_ex' {X R : Type} {F : X → (X → Option R) → Option R} (N : Nat) (I : Nat → X → Prop) (r : R)
    (h : ∀ k x rec, k ≤ N → I k x → (∀ y, k < N → I (k + 1) y → rec y = some r) → F x rec = some r) (n k : Nat) (x : X) (hk : k ≤ N) (hn : N - k < n) (hi : I k x) : iter F n x = some r := by
  obtain ⟨r', h1, rfl⟩ := iter_ex (F := F) N I (fun r' => r' = r) (fun k x rec hk hx hrec => ⟨r, h k x rec hk hx (fun y hy hiy => by obtain ⟨r', h1, rfl⟩ := hrec y hy hiy; exact h1), rfl⟩) n k x hk hn hi
  exact h1

theorem wt_int {T : TT} {n : Nat} {t : TypeId} {i : TI} {ds : List D} (hi : T t = some i) (hk : i.kind = .int .i64) (h : WT T n t ds) : ∃ x : Int, ds = [.v (.int .i64 x)] ∧ -9223372036854775808 ≤ x ∧ x ≤ 9223372036854775807 := by
  cases n with
  | zero => exact h.elim
  | succ n =>
    unfold WT at h
    rw [hi] at h
    simp only [hk] at h
    obtain ⟨x, h1, h2, h3⟩ := h
    exact ⟨x, h1, by simpa [IntKind.min, IntKind.signed, IntKind.bits] using h2, by simpa [IntKind.max, IntKind.signed, IntKind.bits] using h3⟩
theorem wt_bool {T : TT} {n : Nat} {t : TypeId} {i : TI} {ds : List D} (hi : T t = some i) (hk : i.kind = .bool) (h : WT T n t ds) : ∃ x : Bool, ds = [.v (.bool x)] := by
  cases n with
  | zero => exact h.elim
  | succ n =>
    unfold WT at h
    rw [hi] at h
    simp only [hk] at h
    exact h
theorem wt_str {T : TT} {n : Nat} {t : TypeId} {i : TI} {ds : List D} (hi : T t = some i) (hk : i.kind = .str) (h : WT T n t ds) : ∃ x : List UInt8, ds = [.s x] ∧ x.length ≤ 9223372036854775807 := by
  cases n with
  | zero => exact h.elim
  | succ n =>
    unfold WT at h
    rw [hi] at h
    simp only [hk] at h
    exact h
theorem wt_slice {T : TT} {n : Nat} {t e : TypeId} {i : TI} {ds : List D} (hi : T t = some i) (hk : i.kind = .slice e) (h : WT T n t ds) : ∃ es, ds = [.sl es] ∧ es.length ≤ 9223372036854775807 ∧ ∃ m, n = m + 1 ∧ ∀ c ∈ es, WT T m e c := by
  cases n with
  | zero => exact h.elim
  | succ n =>
    unfold WT at h
    rw [hi] at h
    simp only [hk] at h
    obtain ⟨es, h1, h2, h3⟩ := h
    exact ⟨es, h1, h2, n, rfl, h3⟩
theorem wt_struct {T : TT} {n : Nat} {t : TypeId} {i : TI} {ds : List D} {fs : List (Nat × TypeId × Nat)} (hi : T t = some i) (hk : i.kind = .struct fs) (h : WT T n t ds) :
    ∃ dss : List (List D), ds = dss.flatten ∧ dss.length = fs.length ∧ ∃ m, n = m + 1 ∧ ∀ (j : Nat) (f : Nat × TypeId × Nat) (c : List D), fs[j]? = some f → dss[j]? = some c → WT T m f.2.1 c := by
  cases n with
  | zero => exact h.elim
  | succ n =>
    unfold WT at h
    rw [hi] at h
    simp only [hk] at h
    obtain ⟨dss, h1, h2, h3⟩ := h
    exact ⟨dss, h1, h2, n, rfl, h3⟩
/-- The elements of a list, each of its own. -/
theorem wt_list {α : Type} {p : List D → Prop} {f : α → List D} {q : α → Prop} (h : ∀ c, p c → ∃ a, c = f a ∧ q a) : ∀ (es : List (List D)), (∀ c ∈ es, p c) → ∃ l : List α, es = l.map f ∧ ∀ a ∈ l, q a
  | [], _ => ⟨[], rfl, by simp⟩
  | c :: es, hc => by
    obtain ⟨a, h1, h2⟩ := h c (hc c (List.mem_cons_self ..))
    obtain ⟨l, h3, h4⟩ := wt_list h es fun x hx => hc x (List.mem_cons_of_mem _ hx)
    refine ⟨a :: l, by rw [h1, h3]; rfl, fun b hb => ?_⟩
    rcases List.mem_cons.1 hb with rfl | hb
    · exact h2
    · exact h4 b hb

/-- One argument, of its type. -/
theorem args1 {T : TT} {t : TypeId} {l : List A} (h : ArgsOK T [t] l) : ∃ n ds, WT T n t ds ∧ l = [argA T t ds] := by
  match l, h with
  | [a], h => obtain ⟨⟨n, ds, h1, h2⟩, _⟩ := h; exact ⟨n, ds, h1, by rw [h2]⟩
theorem args2 {T : TT} {t u : TypeId} {l : List A} (h : ArgsOK T [t, u] l) : ∃ n ds m es, WT T n t ds ∧ WT T m u es ∧ l = [argA T t ds, argA T u es] := by
  match l, h with
  | [a, b], h => obtain ⟨⟨n, ds, h1, h2⟩, ⟨m, es, h3, h4⟩, _⟩ := h; exact ⟨n, ds, m, es, h1, h3, by rw [h2, h4]⟩
theorem args3 {T : TT} {t u v : TypeId} {l : List A} (h : ArgsOK T [t, u, v] l) : ∃ n ds m es k fs, WT T n t ds ∧ WT T m u es ∧ WT T k v fs ∧ l = [argA T t ds, argA T u es, argA T v fs] := by
  match l, h with
  | [a, b, c], h => obtain ⟨⟨n, ds, h1, h2⟩, ⟨m, es, h3, h4⟩, ⟨k, fs, h5, h6⟩, _⟩ := h; exact ⟨n, ds, m, es, k, fs, h1, h3, h5, by rw [h2, h4, h6]⟩

@[simp] theorem xif_tt {R : Type} (x : Option R) : xif true x = x := rfl
@[simp] theorem xif_ff {R : Type} (x : Option R) : xif false x = none := rfl
@[simp] theorem getD_one (x y : D) : List.getD [x] 0 y = x := rfl
@[simp] theorem xone_one (c : C) : xone (.one c) = some c := rfl

abbrev Txt := List UInt8
abbrev Row := List Txt
abbrev Tab := List Row
def rD (r : Row) : List (List D) := r.map fun s => [.s s]
def tD (t : Tab) : List (List D) := t.map fun r => [.sl (rD r)]
abbrev aT (t : Tab) : A := .one (.d (.sl (tD t)))
abbrev aR (t : Row) : A := .one (.d (.sl (rD t)))
abbrev aS (t : Txt) : A := .one (.d (.s t))
abbrev aI (n : Int) : A := .one (.d (.v (.int .i64 n)))
abbrev aB (b : Bool) : A := .one (.d (.v (.bool b)))
@[simp] theorem length_rD (r : Row) : (rD r).length = r.length := by simp [rD]
@[simp] theorem length_tD (r : Tab) : (tD r).length = r.length := by simp [tD]
theorem xElem_rD (r : Row) (k : Nat) (h : k < r.length) : xElem 1 (rD r) (k : Int) = some [.s r[k]] := xElem_map 1 (fun s => [D.s s]) r k h fun _ => rfl
theorem xElem_tD (t : Tab) (k : Nat) (h : k < t.length) : xElem 1 (tD t) (k : Int) = some [.sl (rD t[k])] := xElem_map 1 (fun s => [D.sl (rD s)]) t k h fun _ => rfl
theorem xElem_tD0 (t : Tab) (h : 0 < t.length) : xElem 1 (tD t) (0 : Int) = some [.sl (rD t[0])] := xElem_tD t 0 h
end Go.Av
