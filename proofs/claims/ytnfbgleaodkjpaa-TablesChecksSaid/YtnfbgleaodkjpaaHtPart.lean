/-
  Tables as lists of lists of texts; what the words of a run give; loops.
-/
import Derived.Test.YtnfbgleaodkjpaaHtRun
import Derived.Test.YtnfbgleaodkjpaaHvLaw
set_option linter.all false
set_option linter.unusedSimpArgs false
namespace Go.Av
open Go.Proofs

/-- What the words of a run give. -/
@[simp] theorem xDI_v (k : IntKind) (n : Int) : xDI k (.v (.int k n)) = some n := by simp [xDI]
@[simp] theorem xDB_v (b : Bool) : xDB (.v (.bool b)) = some b := rfl
@[simp] theorem xDS_s (b : List UInt8) : xDS (.s b) = some b := rfl
@[simp] theorem xDL_sl (b : List (List D)) : xDL (.sl b) = some b := rfl
@[simp] theorem xAD_d (d : D) : xAD (.one (.d d)) = some d := rfl
@[simp] theorem xI_i (k : IntKind) (n : Int) : xI k (.one (.d (.v (.int k n)))) = some n := by simp [xI]
@[simp] theorem xB_b (b : Bool) : xB (.one (.d (.v (.bool b)))) = some b := rfl
@[simp] theorem unD_nil : unD [] = some [] := rfl
@[simp] theorem unD_cons (d : D) (cs : List C) : unD (.d d :: cs) = (unD cs).bind fun ds => some (d :: ds) := rfl
@[simp] theorem unD_map (l : List D) : unD (l.map C.d) = some l := by
  induction l with
  | nil => rfl
  | cons d l ih => simp [ih]
@[simp] theorem xADs_agg (cs : List C) : xADs (.agg cs) = unD cs := rfl
@[simp] theorem xtup_tup (l : List A) (i : Nat) : xtup (.tup l) i = l[i]? := rfl
@[simp] theorem xite_decide {R : Type} (p : Prop) [Decidable p] (x y : Option R) : xite (decide p) x y = if p then x else y := by
  by_cases h : p <;> simp [xite, h]
@[simp] theorem xite_not {R : Type} (b : Bool) (x y : Option R) : xite (!b) x y = xite b y x := by cases b <;> rfl
@[simp] theorem xite_true {R : Type} (x y : Option R) : xite true x y = x := rfl
@[simp] theorem xite_false {R : Type} (x y : Option R) : xite false x y = y := rfl
@[simp] theorem xif_decide {R : Type} (p : Prop) [Decidable p] (x : Option R) : xif (decide p) x = if p then x else none := by
  by_cases h : p <;> simp [xif, h]

theorem wrap_i (n : Int) (h1 : -9223372036854775808 ≤ n) (h2 : n ≤ 9223372036854775807) : IntKind.i64.wrap n = n := by rw [IntKind.wrap_i64]; omega

theorem xElem_map {α : Type} (sz : Nat) (f : α → List D) (l : List α) (k : Nat) (hk : k < l.length) (hf : ∀ a, (f a).length = sz) : xElem sz (l.map f) (k : Int) = some (f l[k]) := by
  unfold xElem
  rw [if_pos (by omega), Int.toNat_natCast]
  simp [hk, hf]
theorem xIdxS_get (l : List UInt8) (k : Nat) (hk : k < l.length) : xIdxS l (k : Int) = some l[k] := by
  unfold xIdxS
  rw [if_pos (by omega), Int.toNat_natCast]
  simp [hk]

theorem drop_some {α : Type} (l : List α) (k : Nat) (h : k < l.length) : l.drop k = l[k] :: l.drop (k + 1) := List.drop_eq_getElem_cons h
theorem nat_succ {n k : Nat} (h : k + 1 ≤ n) : ∃ m, n = m + 1 := ⟨n - 1, by omega⟩

end Go.Av
namespace Go.Av
/-- A loop whose states are numbered. -/
theorem iter_nat {X R : Type} {F : X → (X → Option R) → Option R} (N : Nat) (st : Nat → X) (g : Nat → R)
    (h : ∀ k rec, k ≤ N → (k + 1 ≤ N → rec (st (k + 1)) = some (g (k + 1))) → F (st k) rec = some (g k)) : ∀ (n k : Nat), k ≤ N → N - k < n → iter F n (st k) = some (g k)
  | 0, k, _, hn => absurd hn (Nat.not_lt_zero _)
  | n + 1, k, hk, hn => h k _ hk fun hk1 => iter_nat N st g h n (k + 1) hk1 (by omega)

theorem iter_ex {X R : Type} {F : X → (X → Option R) → Option R} (N : Nat) (I : Nat → X → Prop) (Q : R → Prop)
    (h : ∀ k x rec, k ≤ N → I k x → (∀ y, k + 1 ≤ N → I (k + 1) y → ∃ r, rec y = some r ∧ Q r) → ∃ r, F x rec = some r ∧ Q r) : ∀ (n k : Nat) (x : X), k ≤ N → N - k < n → I k x → ∃ r, iter F n x = some r ∧ Q r
  | 0, k, _, _, hn, _ => absurd hn (Nat.not_lt_zero _)
  | n + 1, k, x, hk, hn, hi => h k x _ hk hi fun y hk1 hy => iter_ex N I Q h n (k + 1) y hk1 (by omega) hy

theorem iter_ex' {X R : Type} {F : X → (X → Option R) → Option R} (N : Nat) (I : Nat → X → Prop) (r : R)
    (h : ∀ k x rec, k ≤ N → I k x → (∀ y, k < N → I (k + 1) y → rec y = some r) → F x rec = some r) (n k : Nat) (x : X) (hk : k ≤ N) (hn : N - k < n) (hi : I k x) : iter F n x = some r := by
  obtain ⟨r', h1, rfl⟩ := iter_ex (F := F) N I (fun r' => r' = r) (fun k x rec hk hx hrec => ⟨r, h k x rec hk hx (fun y hy hiy => by obtain ⟨r', h1, rfl⟩ := hrec y hy hiy; exact h1), rfl⟩) n k x hk hn hi
  exact h1

theorem wt_int {T : TT} {n : Nat} {t : TypeId} {i : TI} {ds : List D} (hi : T t = some i) (hk : i.kind = .int .i64) (h : WT T n t ds) : ∃ x : Int, ds = [.v (.int .i64 x)] ∧ -9223372036854775808 ≤ x ∧ x ≤ 9223372036854775807 := by
  cases n with
  | zero => exact h.elim
  | succ n =>
    unfold WT at h
    rw [hi] at h
    simp only [hk] at h
    obtain ⟨x, h1, h2, h3⟩ := h
    exact ⟨x, h1, by simpa [IntKind.min, IntKind.signed, IntKind.bits] using h2, by simpa [IntKind.max, IntKind.signed, IntKind.bits] using h3⟩
theorem wt_bool {T : TT} {n : Nat} {t : TypeId} {i : TI} {ds : List D} (hi : T t = some i) (hk : i.kind = .bool) (h : WT T n t ds) : ∃ x : Bool, ds = [.v (.bool x)] := by
  cases n with
  | zero => exact h.elim
  | succ n =>
    unfold WT at h
    rw [hi] at h
    simp only [hk] at h
    exact h
theorem wt_str {T : TT} {n : Nat} {t : TypeId} {i : TI} {ds : List D} (hi : T t = some i) (hk : i.kind = .str) (h : WT T n t ds) : ∃ x : List UInt8, ds = [.s x] ∧ x.length ≤ 9223372036854775807 := by
  cases n with
  | zero => exact h.elim
  | succ n =>
    unfold WT at h
    rw [hi] at h
    simp only [hk] at h
    exact h
theorem wt_slice {T : TT} {n : Nat} {t e : TypeId} {i : TI} {ds : List D} (hi : T t = some i) (hk : i.kind = .slice e) (h : WT T n t ds) : ∃ es, ds = [.sl es] ∧ es.length ≤ 9223372036854775807 ∧ ∃ m, n = m + 1 ∧ ∀ c ∈ es, WT T m e c := by
  cases n with
  | zero => exact h.elim
  | succ n =>
    unfold WT at h
    rw [hi] at h
    simp only [hk] at h
    obtain ⟨es, h1, h2, h3⟩ := h
    exact ⟨es, h1, h2, n, rfl, h3⟩
theorem wt_struct {T : TT} {n : Nat} {t : TypeId} {i : TI} {ds : List D} {fs : List (Nat × TypeId × Nat)} (hi : T t = some i) (hk : i.kind = .struct fs) (h : WT T n t ds) :
    ∃ dss : List (List D), ds = dss.flatten ∧ dss.length = fs.length ∧ ∃ m, n = m + 1 ∧ ∀ (j : Nat) (f : Nat × TypeId × Nat) (c : List D), fs[j]? = some f → dss[j]? = some c → WT T m f.2.1 c := by
  cases n with
  | zero => exact h.elim
  | succ n =>
    unfold WT at h
    rw [hi] at h
    simp only [hk] at h
    obtain ⟨dss, h1, h2, h3⟩ := h
    exact ⟨dss, h1, h2, n, rfl, h3⟩
/-- The elements of a list, each of its own. -/
theorem wt_list {α : Type} {p : List D → Prop} {f : α → List D} {q : α → Prop} (h : ∀ c, p c → ∃ a, c = f a ∧ q a) : ∀ (es : List (List D)), (∀ c ∈ es, p c) → ∃ l : List α, es = l.map f ∧ ∀ a ∈ l, q a
  | [], _ => ⟨[], rfl, by simp⟩
  | c :: es, hc => by
    obtain ⟨a, h1, h2⟩ := h c (hc c (List.mem_cons_self ..))
    obtain ⟨l, h3, h4⟩ := wt_list h es fun x hx => hc x (List.mem_cons_of_mem _ hx)
    refine ⟨a :: l, by rw [h1, h3]; rfl, fun b hb => ?_⟩
    rcases List.mem_cons.1 hb with rfl | hb
    · exact h2
    · exact h4 b hb

/-- One argument, of its type. -/
theorem args1 {T : TT} {t : TypeId} {l : List A} (h : ArgsOK T [t] l) : ∃ n ds, WT T n t ds ∧ l = [argA T t ds] := by
  match l, h with
  | [a], h => obtain ⟨⟨n, ds, h1, h2⟩, _⟩ := h; exact ⟨n, ds, h1, by rw [h2]⟩
theorem args2 {T : TT} {t u : TypeId} {l : List A} (h : ArgsOK T [t, u] l) : ∃ n ds m es, WT T n t ds ∧ WT T m u es ∧ l = [argA T t ds, argA T u es] := by
  match l, h with
  | [a, b], h => obtain ⟨⟨n, ds, h1, h2⟩, ⟨m, es, h3, h4⟩, _⟩ := h; exact ⟨n, ds, m, es, h1, h3, by rw [h2, h4]⟩
theorem args3 {T : TT} {t u v : TypeId} {l : List A} (h : ArgsOK T [t, u, v] l) : ∃ n ds m es k fs, WT T n t ds ∧ WT T m u es ∧ WT T k v fs ∧ l = [argA T t ds, argA T u es, argA T v fs] := by
  match l, h with
  | [a, b, c], h => obtain ⟨⟨n, ds, h1, h2⟩, ⟨m, es, h3, h4⟩, ⟨k, fs, h5, h6⟩, _⟩ := h; exact ⟨n, ds, m, es, k, fs, h1, h3, h5, by rw [h2, h4, h6]⟩

@[simp] theorem xif_tt {R : Type} (x : Option R) : xif true x = x := rfl
@[simp] theorem xif_ff {R : Type} (x : Option R) : xif false x = none := rfl
@[simp] theorem getD_one (x y : D) : List.getD [x] 0 y = x := rfl
@[simp] theorem xone_one (c : C) : xone (.one c) = some c := rfl

abbrev Txt := List UInt8
abbrev Row := List Txt
abbrev Tab := List Row
def rD (r : Row) : List (List D) := r.map fun s => [.s s]
def tD (t : Tab) : List (List D) := t.map fun r => [.sl (rD r)]
abbrev aT (t : Tab) : A := .one (.d (.sl (tD t)))
abbrev aR (t : Row) : A := .one (.d (.sl (rD t)))
abbrev aS (t : Txt) : A := .one (.d (.s t))
abbrev aI (n : Int) : A := .one (.d (.v (.int .i64 n)))
abbrev aB (b : Bool) : A := .one (.d (.v (.bool b)))
@[simp] theorem length_rD (r : Row) : (rD r).length = r.length := by simp [rD]
@[simp] theorem length_tD (r : Tab) : (tD r).length = r.length := by simp [tD]
theorem xElem_rD (r : Row) (k : Nat) (h : k < r.length) : xElem 1 (rD r) (k : Int) = some [.s r[k]] := xElem_map 1 (fun s => [D.s s]) r k h fun _ => rfl
theorem xElem_tD (t : Tab) (k : Nat) (h : k < t.length) : xElem 1 (tD t) (k : Int) = some [.sl (rD t[k])] := xElem_map 1 (fun s => [D.sl (rD s)]) t k h fun _ => rfl
theorem xElem_tD0 (t : Tab) (h : 0 < t.length) : xElem 1 (tD t) (0 : Int) = some [.sl (rD t[0])] := xElem_tD t 0 h
end Go.Av

set_option linter.unusedSimpArgs false
namespace Go.Av

def smallR (r : Row) : Bool := decide (r.length ≤ 20) && r.all fun s => decide (s.length ≤ 100)
def smallT (t : Tab) : Bool := decide (t.length ≤ 20) && t.all smallR

theorem small_spec (t : Tab) (n : Nat) (hn : 40 ≤ n) : (O0 n).Φ i_law08_small [aT t] = some (aB (smallT t)) := by
  obtain ⟨m, rfl⟩ := nat_succ (n := n) (k := 0) (by omega)
  rw [law08_small_run, law08_small, smallT]
  by_cases h20 : t.length ≤ 20
  · have h20' : ¬ (20 : Int) < (tD t).length := by simp; omega
    simp only [xite_decide, h20', if_false, h20, decide_true, Bool.true_and]
    refine iter_nat t.length (fun k => (tD t, (k : Int), ())) (fun k => aB ((t.drop k).all smallR)) (fun k rec hk hrec => ?_) m 0 (by omega) (by omega)
    by_cases hlt : k < t.length
    · have hw := wrap_i (k + 1) (by omega) (by omega)
      have hlt' : (k : Int) < t.length := by omega
      have hr := hrec hlt
      rw [drop_some _ k hlt, List.all_cons]
      generalize hq : t[k] = r
      by_cases hr20 : r.length ≤ 20
      · have hr20' : ¬ (20 : Int) < r.length := by omega
        simp only [law08_small_l0, xite_decide, xif_decide, length_tD, hlt', if_true, xElem_tD t k hlt, hq, Option.bind_some, List.length_singleton, Nat.le_refl, getD_one, xDL_sl, length_rD, hr20', if_false, smallR, hr20, decide_true, Bool.true_and]
        refine iter_nat r.length (fun j => (tD t, (k : Int), (j : Int), ())) (fun j => aB ((r.drop j).all (fun s => decide (s.length ≤ 100)) && (t.drop (k + 1)).all smallR)) (fun j rec hj hrec => ?_) m 0 (by omega) (by omega)
        by_cases hjl : j < r.length
        · have hwj := wrap_i (j + 1) (by omega) (by omega)
          have hjl' : (j : Int) < r.length := by omega
          have hrj := hrec hjl
          rw [drop_some _ j hjl, List.all_cons]
          simp only [law08_small_l1, xite_decide, xif_decide, xElem_tD t k hlt, hq, Option.bind_some, List.length_singleton, Nat.le_refl, if_true, getD_one, xDL_sl, length_rD, hjl', xElem_rD r j hjl, xDS_s, hwj]
          by_cases h100 : r[j].length ≤ 100
          · have h100' : ¬ (100 : Int) < r[j].length := by omega
            simp only [h100', if_false, h100, decide_true, Bool.true_and]
            exact hrj
          · have h100' : (100 : Int) < r[j].length := by omega
            simp only [h100', if_true, h100, decide_false, Bool.false_and]
        · have hjl' : ¬ (j : Int) < r.length := by omega
          rw [List.drop_of_length_le (by omega), List.all_nil, Bool.true_and]
          simp only [law08_small_l1, xite_decide, xif_decide, xElem_tD t k hlt, hq, Option.bind_some, List.length_singleton, Nat.le_refl, if_true, getD_one, xDL_sl, length_rD, hjl', if_false, hw]
          exact hr
      · have hr20' : (20 : Int) < r.length := by omega
        simp only [law08_small_l0, xite_decide, xif_decide, length_tD, hlt', if_true, xElem_tD t k hlt, hq, Option.bind_some, List.length_singleton, Nat.le_refl, getD_one, xDL_sl, length_rD, hr20', smallR, hr20, decide_false, Bool.false_and]
    · have hlt' : ¬ (k : Int) < t.length := by omega
      rw [List.drop_of_length_le (by omega), List.all_nil]
      simp only [law08_small_l0, xite_decide, length_tD, hlt', if_false]
  · have h20' : (20 : Int) < (tD t).length := by simp; omega
    simp only [xite_decide, h20', if_true, h20, decide_false, Bool.false_and]

def okByte (b : UInt8) : Bool := decide (32 ≤ b.toNat ∧ b.toNat ≤ 126)
def chkS (s : Txt) : Int := if 64 < s.length then 2 else if s.all okByte then 0 else 4
def chkR : Row → Int
  | [] => 0
  | s :: r => if chkS s = 0 then chkR r else chkS s
def chkL (n0 : Nat) : Tab → Int
  | [] => 0
  | r :: t => if r.length < 1 then 2 else if 8 < r.length then 2 else if r.length ≠ n0 then 4 else if chkR r = 0 then chkL n0 t else chkR r
def chk (t : Tab) : Int := if 8 < t.length then 2 else chkL (t.headD []).length t

theorem head_get (t : Tab) (h : 0 < t.length) : t.headD [] = t[0] := by
  cases t with
  | nil => simp at h
  | cons r t => rfl

theorem tables_Check_spec (t : Tab) (n : Nat) (hn : 100 ≤ n) : (O0 n).Φ i_tables_Check [aT t] = some (aI (chk t)) := by
  obtain ⟨m, rfl⟩ := nat_succ (n := n) (k := 0) (by omega)
  rw [tables_Check_run, tables_Check, chk]
  by_cases h8 : 8 < t.length
  · have h8' : (8 : Int) < t.length := by omega
    simp only [xite_decide, length_tD, h8', if_true, h8]
  · have h8' : ¬ (8 : Int) < t.length := by omega
    simp only [xite_decide, length_tD, h8', if_false, h8]
    refine iter_nat t.length (fun k => (tD t, tD t, (t.length : Int), (k : Int), ())) (fun k => aI (chkL (t.headD []).length (t.drop k))) (fun k rec hk hrec => ?_) m 0 (by omega) (by omega)
    by_cases hlt : k < t.length
    · have hw := wrap_i (k + 1) (by omega) (by omega)
      have hlt' : (k : Int) < t.length := by omega
      have hr := hrec hlt
      have hpos : 0 < t.length := by omega
      rw [drop_some _ k hlt, chkL, head_get t hpos]
      rw [head_get t hpos] at hr
      generalize hq : t[k] = r
      simp only [tables_Check_l0, xite_decide, xite_not, xif_decide, hlt', if_true, xElem_tD t k hlt, hq, xElem_tD0 t hpos, Option.bind_some, List.length_singleton, Nat.le_refl, getD_one, xDL_sl, length_rD]
      by_cases hr1 : r.length < 1
      · have hr1' : (r.length : Int) < 1 := by omega
        simp only [hr1, hr1', if_true]
      · have hr1' : ¬ (r.length : Int) < 1 := by omega
        simp only [hr1, hr1', if_false]
        by_cases hr8 : 8 < r.length
        · have hr8' : (8 : Int) < r.length := by omega
          simp only [hr8, hr8', if_true]
        · have hr8' : ¬ (8 : Int) < r.length := by omega
          simp only [hr8, hr8', if_false]
          by_cases hrn : r.length = t[0].length
          · have hrn' : (r.length : Int) = t[0].length := by omega
            simp only [eq_true hrn', if_true, ← hrn, ne_eq, not_true, if_false]
            rw [← hrn] at hr
            refine iter_nat r.length (fun j => (tD t, tD t, (t.length : Int), (k : Int), rD r, (r.length : Int), (j : Int), ())) (fun j => aI (if chkR (r.drop j) = 0 then chkL r.length (t.drop (k + 1)) else chkR (r.drop j))) (fun j rec hj hrec => ?_) m 0 (by omega) (by omega)
            by_cases hjl : j < r.length
            · have hwj := wrap_i (j + 1) (by omega) (by omega)
              have hjl' : (j : Int) < r.length := by omega
              have hrj := hrec hjl
              rw [drop_some _ j hjl, chkR]
              generalize hs : r[j] = s
              simp only [tables_Check_l1, xite_decide, xif_decide, hjl', if_true, xElem_rD r j hjl, hs, Option.bind_some, List.length_singleton, Nat.le_refl, getD_one, xDS_s, hwj]
              by_cases h64 : 64 < s.length
              · have h64' : (64 : Int) < s.length := by omega
                simp [h64', chkS, h64]
              · have h64' : ¬ (64 : Int) < s.length := by omega
                simp only [h64', if_false, chkS, h64]
                refine iter_nat s.length (fun i => (tD t, s, tD t, (t.length : Int), (k : Int), rD r, (r.length : Int), (j : Int), (s.length : Int), (i : Int), ())) (fun i => aI (if (if (if (s.drop i).all okByte then (0 : Int) else 4) = 0 then chkR (r.drop (j + 1)) else (if (s.drop i).all okByte then 0 else 4)) = 0 then chkL r.length (t.drop (k + 1)) else (if (if (s.drop i).all okByte then (0 : Int) else 4) = 0 then chkR (r.drop (j + 1)) else (if (s.drop i).all okByte then 0 else 4)))) (fun i rec hi hrec => ?_) m 0 (by omega) (by omega)
                by_cases hil : i < s.length
                · have hwi := wrap_i (i + 1) (by omega) (by omega)
                  have hil' : (i : Int) < s.length := by omega
                  have hri := hrec hil
                  rw [drop_some _ i hil, List.all_cons]
                  simp only [tables_Check_l2, xite_decide, hil', if_true, xIdxS_get s i hil, Option.bind_some, hwi]
                  by_cases h1 : s[i].toNat < 32
                  · have h1' : (s[i].toNat : Int) < 32 := by omega
                    have : okByte s[i] = false := by simp [okByte]; omega
                    simp [h1', this]
                  · have h1' : ¬ (s[i].toNat : Int) < 32 := by omega
                    by_cases h2 : 126 < s[i].toNat
                    · have h2' : (126 : Int) < s[i].toNat := by omega
                      have : okByte s[i] = false := by simp [okByte]; omega
                      simp [h1', h2', this]
                    · have h2' : ¬ (126 : Int) < s[i].toNat := by omega
                      have : okByte s[i] = true := by simp [okByte]; omega
                      simp only [h1', h2', if_false, this, Bool.true_and]
                      exact hri
                · have hil' : ¬ (i : Int) < s.length := by omega
                  rw [List.drop_of_length_le (by omega), List.all_nil]
                  simp only [tables_Check_l2, xite_decide, hil', if_false, if_true, hwj]
                  exact hrj
            · have hjl' : ¬ (j : Int) < r.length := by omega
              rw [List.drop_of_length_le (by omega), chkR]
              simp only [tables_Check_l1, xite_decide, hjl', if_false, if_true, hw]
              exact hr
          · have hrn' : ¬ (r.length : Int) = t[0].length := by omega
            simp only [hrn', hrn, if_false, ne_eq, not_false_eq_true, if_true]
    · have hlt' : ¬ (k : Int) < t.length := by omega
      rw [List.drop_of_length_le (by omega), chkL]
      simp only [tables_Check_l0, xite_decide, hlt', if_false]

theorem ref08_Check_spec (t : Tab) (n : Nat) (hn : 100 ≤ n) : (O0 n).Φ i_ref08_Check [aT t] = some (aI (chk t)) := by
  obtain ⟨m, rfl⟩ := nat_succ (n := n) (k := 0) (by omega)
  rw [ref08_Check_run, ref08_Check, chk]
  by_cases h8 : 8 < t.length
  · have h8' : (8 : Int) < t.length := by omega
    simp only [xite_decide, length_tD, h8', if_true, h8]
  · have h8' : ¬ (8 : Int) < t.length := by omega
    simp only [xite_decide, length_tD, h8', if_false, h8]
    refine iter_nat t.length (fun k => (tD t, (k : Int), ())) (fun k => aI (chkL (t.headD []).length (t.drop k))) (fun k rec hk hrec => ?_) m 0 (by omega) (by omega)
    by_cases hlt : k < t.length
    · have hw := wrap_i (k + 1) (by omega) (by omega)
      have hlt' : (k : Int) < t.length := by omega
      have hr := hrec hlt
      have hpos : 0 < t.length := by omega
      rw [drop_some _ k hlt, chkL, head_get t hpos]
      rw [head_get t hpos] at hr
      generalize hq : t[k] = r
      simp only [ref08_Check_l0, xite_decide, xite_not, xif_decide, length_tD, hlt', if_true, xElem_tD t k hlt, hq, xElem_tD0 t hpos, Option.bind_some, List.length_singleton, Nat.le_refl, getD_one, xDL_sl, length_rD]
      by_cases hr1 : r.length < 1
      · have hr1' : (r.length : Int) < 1 := by omega
        simp only [hr1, hr1', if_true]
      · have hr1' : ¬ (r.length : Int) < 1 := by omega
        simp only [hr1, hr1', if_false]
        by_cases hr8 : 8 < r.length
        · have hr8' : (8 : Int) < r.length := by omega
          simp only [hr8, hr8', if_true]
        · have hr8' : ¬ (8 : Int) < r.length := by omega
          simp only [hr8, hr8', if_false]
          by_cases hrn : r.length = t[0].length
          · have hrn' : (r.length : Int) = t[0].length := by omega
            simp only [eq_true hrn', if_true, ← hrn, ne_eq, not_true, if_false]
            rw [← hrn] at hr
            refine iter_nat r.length (fun j => (tD t, (k : Int), (j : Int), ())) (fun j => aI (if chkR (r.drop j) = 0 then chkL r.length (t.drop (k + 1)) else chkR (r.drop j))) (fun j rec hj hrec => ?_) m 0 (by omega) (by omega)
            by_cases hjl : j < r.length
            · have hwj := wrap_i (j + 1) (by omega) (by omega)
              have hjl' : (j : Int) < r.length := by omega
              have hrj := hrec hjl
              rw [drop_some _ j hjl, chkR]
              generalize hs : r[j] = s
              simp only [ref08_Check_l1, xite_decide, xif_decide, xElem_tD t k hlt, hq, length_rD, xDL_sl, hjl', if_true, xElem_rD r j hjl, hs, Option.bind_some, List.length_singleton, Nat.le_refl, getD_one, xDS_s, hwj]
              by_cases h64 : 64 < s.length
              · have h64' : (64 : Int) < s.length := by omega
                simp [h64', chkS, h64]
              · have h64' : ¬ (64 : Int) < s.length := by omega
                simp only [h64', if_false, chkS, h64]
                refine iter_nat s.length (fun i => (tD t, (k : Int), (j : Int), (i : Int), ())) (fun i => aI (if (if (if (s.drop i).all okByte then (0 : Int) else 4) = 0 then chkR (r.drop (j + 1)) else (if (s.drop i).all okByte then 0 else 4)) = 0 then chkL r.length (t.drop (k + 1)) else (if (if (s.drop i).all okByte then (0 : Int) else 4) = 0 then chkR (r.drop (j + 1)) else (if (s.drop i).all okByte then 0 else 4)))) (fun i rec hi hrec => ?_) m 0 (by omega) (by omega)
                by_cases hil : i < s.length
                · have hwi := wrap_i (i + 1) (by omega) (by omega)
                  have hil' : (i : Int) < s.length := by omega
                  have hri := hrec hil
                  rw [drop_some _ i hil, List.all_cons]
                  simp only [ref08_Check_l2, xite_decide, xif_decide, xElem_tD t k hlt, hq, xDL_sl, xElem_rD r j hjl, hs, xDS_s, List.length_singleton, Nat.le_refl, getD_one, hil', if_true, xIdxS_get s i hil, Option.bind_some, hwi]
                  by_cases h1 : s[i].toNat < 32
                  · have h1' : (s[i].toNat : Int) < 32 := by omega
                    have : okByte s[i] = false := by simp [okByte]; omega
                    simp [h1', this]
                  · have h1' : ¬ (s[i].toNat : Int) < 32 := by omega
                    by_cases h2 : 126 < s[i].toNat
                    · have h2' : (126 : Int) < s[i].toNat := by omega
                      have : okByte s[i] = false := by simp [okByte]; omega
                      simp [h1', h2', this]
                    · have h2' : ¬ (126 : Int) < s[i].toNat := by omega
                      have : okByte s[i] = true := by simp [okByte]; omega
                      simp only [h1', h2', if_false, this, Bool.true_and]
                      exact hri
                · have hil' : ¬ (i : Int) < s.length := by omega
                  rw [List.drop_of_length_le (by omega), List.all_nil]
                  simp only [ref08_Check_l2, xite_decide, xif_decide, xElem_tD t k hlt, hq, xDL_sl, xElem_rD r j hjl, hs, xDS_s, List.length_singleton, Nat.le_refl, getD_one, Option.bind_some, hil', if_false, if_true, hwj]
                  exact hrj
            · have hjl' : ¬ (j : Int) < r.length := by omega
              rw [List.drop_of_length_le (by omega), chkR]
              simp only [ref08_Check_l1, xite_decide, xif_decide, xElem_tD t k hlt, hq, xDL_sl, length_rD, List.length_singleton, Nat.le_refl, getD_one, Option.bind_some, hjl', if_false, if_true, hw]
              exact hr
          · have hrn' : ¬ (r.length : Int) = t[0].length := by omega
            simp only [hrn', hrn, if_false, ne_eq, not_false_eq_true, if_true]
    · have hlt' : ¬ (k : Int) < t.length := by omega
      rw [List.drop_of_length_le (by omega), chkL]
      simp only [ref08_Check_l0, xite_decide, length_tD, hlt', if_false]
end Go.Av

set_option linter.unusedSimpArgs false
namespace Go.Av

def cols (t : Tab) : Nat := (t.headD []).length

theorem chkL_spec (n0 : Nat) : ∀ t : Tab, chkL n0 t = 0 → ∀ r ∈ t, 1 ≤ r.length ∧ r.length ≤ 8 ∧ r.length = n0 ∧ chkR r = 0
  | [], _, r, hr => by cases hr
  | q :: t, h, r, hr => by
    rw [chkL] at h
    split at h
    · cases h
    · split at h
      · cases h
      · split at h
        · cases h
        · split at h
          · rename_i h1 h2 h3 h4
            rcases List.mem_cons.1 hr with rfl | hr
            · exact ⟨by omega, by omega, by simpa using h3, h4⟩
            · exact chkL_spec n0 t h r hr
          · rename_i h4; exact absurd h h4
theorem chk_len {t : Tab} (h : chk t = 0) : t.length ≤ 8 := by
  unfold chk at h
  split at h
  · cases h
  · omega
theorem chk_row {t : Tab} (h : chk t = 0) : ∀ r ∈ t, 1 ≤ r.length ∧ r.length ≤ 8 ∧ r.length = cols t ∧ chkR r = 0 := by
  unfold chk at h
  split at h
  · cases h
  · exact chkL_spec _ t h
theorem chk_cols {t : Tab} (h : chk t = 0) : cols t ≤ 8 := by
  cases t with
  | nil => simp [cols]
  | cons r t => have := chk_row h r (List.mem_cons_self ..); omega
theorem cols_get (t : Tab) (h : 0 < t.length) : cols t = t[0].length := by unfold cols; rw [head_get t h]

theorem tables_columns_spec (t : Tab) (n : Nat) (hn : 1 ≤ n) : (O0 n).Φ i_tables_columns [aT t] = some (aI (cols t)) := by
  obtain ⟨m, rfl⟩ := nat_succ (n := n) (k := 0) (by omega)
  rw [tables_columns_run, tables_columns]
  cases t with
  | nil => simp [tD, cols]
  | cons r t =>
    have h0 : ¬ (((tD (r :: t)).length : Int) = 0) := by simp; omega
    simp only [xite_decide, h0, if_false, xElem_tD0 (r :: t) (by simp), Option.bind_some, List.length_singleton, Nat.le_refl, decide_true, xif_tt, getD_one, xDL_sl, length_rD, List.getElem_cons_zero]
    rfl
theorem ref08_Columns_spec (t : Tab) (n : Nat) (hn : 1 ≤ n) : (O0 n).Φ i_ref08_Columns [aT t] = some (aI (cols t)) := by
  obtain ⟨m, rfl⟩ := nat_succ (n := n) (k := 0) (by omega)
  rw [ref08_Columns_run, ref08_Columns]
  cases t with
  | nil => simp [tD, cols]
  | cons r t =>
    have h0 : ¬ (((tD (r :: t)).length : Int) = 0) := by simp; omega
    simp only [xite_decide, h0, if_false, xElem_tD0 (r :: t) (by simp), Option.bind_some, List.length_singleton, Nat.le_refl, decide_true, xif_tt, getD_one, xDL_sl, length_rD, List.getElem_cons_zero]
    rfl

/-- The place of a number among so many. -/
def plc (i : Int) (n : Nat) : Int := if 0 ≤ i ∧ i < n then i else if i < 0 ∧ -(n : Int) ≤ i then n + i else -1
theorem plc_lt (i : Int) (n : Nat) : plc i n < n := by unfold plc; split; omega; split <;> omega
theorem plc_ge (i : Int) (n : Nat) : -1 ≤ plc i n := by unfold plc; split; omega; split <;> omega

theorem tables_place_spec (i : Int) (k : Nat) (hk : k ≤ 9223372036854775807) (n : Nat) (hn : 1 ≤ n) : (O0 n).Φ i_tables_place [aI i, aI k] = some (aI (plc i k)) := by
  obtain ⟨m, rfl⟩ := nat_succ (n := n) (k := 0) (by omega)
  rw [tables_place_run, tables_place, plc]
  have hw : IntKind.i64.wrap (0 - (k : Int)) = -(k : Int) := by rw [wrap_i _ (by omega) (by omega)]; omega
  simp only [xite_decide, hw]
  by_cases h1 : 0 ≤ i
  · by_cases h2 : i < (k : Int)
    · simp [h1, h2]
    · have h3 : ¬ i < 0 := by omega
      simp [h1, h2, h3]
  · have h3 : i < 0 := by omega
    by_cases h4 : -(k : Int) ≤ i
    · have hw2 : IntKind.i64.wrap ((k : Int) + i) = (k : Int) + i := wrap_i _ (by omega) (by omega)
      simp [h1, h3, h4, hw2]
    · simp [h1, h3, h4]
theorem ref08_index_spec (i : Int) (k : Nat) (hk : k ≤ 4611686018427387903) (n : Nat) (hn : 1 ≤ n) : (O0 n).Φ i_ref08_index [aI i, aI k] = some (aI (plc i k)) := by
  obtain ⟨m, rfl⟩ := nat_succ (n := n) (k := 0) (by omega)
  rw [ref08_index_run, ref08_index, plc]
  have hw : IntKind.i64.wrap (0 - (k : Int)) = -(k : Int) := by rw [wrap_i _ (by omega) (by omega)]; omega
  simp only [xite_decide, hw]
  by_cases h1 : i < -(k : Int)
  · have h2 : ¬ 0 ≤ i := by omega
    have h3 : ¬ -(k : Int) ≤ i := by omega
    simp [h1, h2, h3]
  · by_cases h2 : (k : Int) ≤ i
    · have h3 : ¬ i < (k : Int) := by omega
      have h4 : ¬ i < 0 := by omega
      simp [h1, h2, h3, h4]
    · have hk0 : ¬ (k : Int) = 0 := by omega
      have hw2 : IntKind.i64.wrap (i + (k : Int)) = i + (k : Int) := wrap_i _ (by omega) (by omega)
      simp only [h1, h2, if_false, hk0, decide_false, Bool.not_false, xif_tt, hw2]
      by_cases h3 : 0 ≤ i
      · have h5 : Int.tmod (i + k) k = i := by rw [Int.tmod_eq_emod_of_nonneg (by omega), Int.add_emod_right, Int.emod_eq_of_lt h3 (by omega)]
        have h6 : i < (k : Int) := by omega
        simp [h3, h6, h5]
      · have h5 : Int.tmod (i + k) k = k + i := by rw [Int.tmod_eq_emod_of_nonneg (by omega), Int.emod_eq_of_lt (by omega) (by omega)]; omega
        have h6 : i < 0 := by omega
        have h7 : -(k : Int) ≤ i := by omega
        simp [h3, h6, h7, h5]

/-! Rows as blocks. -/
abbrev sC (s : Txt) : C := .d (.s s)
theorem xOnes_rD (r : Row) : xOnes (rD r) = some (r.map D.s) := by
  induction r with
  | nil => rfl
  | cons s r ih => show (xOnes (rD r)).map _ = _; rw [ih]; rfl
theorem hCells_rD (H : Hp) (r : Row) : hCells H (.d (.sl (rD r))) = some (r.map sC) := by
  simp only [hCells, xOnes_rD, Option.map_some, List.map_map]; rfl
theorem hCells_full (H : Hp) (r : Row) : hCells H (.full (rD r)) = some (r.map sC) := by
  simp only [hCells, xOnes_rD, Option.map_some, List.map_map]; rfl
theorem xmapC_sC (H : Hp) (n : Nat) (r : Row) : xmapC (hLow H n) (r.map sC) = some (r.map D.s) := by
  induction r with
  | nil => rfl
  | cons s r ih =>
    have : hLow H n (sC s) = some (.s s) := by cases n <;> rfl
    simp only [List.map_cons, xmapC, this, ih, Option.bind_some]
theorem hLow_own {H : Hp} {k : Nat} {r : Row} {ex : Bool} (h : hGet H k = some ⟨r.map sC, ex⟩) (n : Nat) : hLow H (n + 1) (.hs k 0 r.length) = some (.sl (rD r)) := by
  simp only [hLow, h, Option.bind_some, List.drop_zero]
  rw [if_pos (by simp), List.take_of_length_le (by simp), xmapC_sC]
  simp [rD]
theorem hGet_push (H : Hp) (o : HO) : hGet (H ++ [some o]) H.length = some o := by simp [hGet]
theorem hGet_app {H : Hp} {k : Nat} {o : HO} (h : hGet H k = some o) (H' : Hp) : hGet (H ++ H') k = some o := by
  have h1 := hGet_some h
  have hlt := (List.getElem?_eq_some_iff.1 h1).1
  unfold hGet
  rw [List.getElem?_append_left hlt, h1]

/-- A row copied into a block that may grow. -/
def cpC (r : Row) (H : Hp) : C := match r with | [] => .full [] | _ :: q => .hs H.length 0 (q.length + 1)
def cpH (r : Row) (H : Hp) : Hp := match r with | [] => H | s :: q => H ++ [some ⟨(s :: q).map sC, false⟩]
theorem cp_low (r : Row) (H : Hp) (n : Nat) : hLow (cpH r H) (n + 1) (cpC r H) = some (.sl (rD r)) := by
  cases r with
  | nil => rfl
  | cons s q => exact hLow_own (hGet_push H ⟨(s :: q).map sC, false⟩) n
theorem cp_hok (r : Row) (H : Hp) : (cpC r H).hok = true := by cases r <;> rfl

theorem ref08_list_gen (c : C) (r : Row) (hr : r.length ≤ 1000) (H : Hp) (hc : hCells H c = some (r.map sC)) (Φ : Phi) (Ψ : Psi) (f : Nat) :
    ref08_list Φ Ψ f c H = some (.one (cpC r H), cpH r H) := by
  rw [ref08_list, hc]
  have hb : (([] : List (List D)).length + (r.map sC).length) * 16 ≤ 140737488355328 := by simp; omega
  simp only [Option.bind_some, hb, decide_true, xif_tt]
  cases r with
  | nil => rfl
  | cons s q => simp [hApp, xOnes, xokR, xokC, C.hok, cpC, cpH]
theorem slices_Clone_gen (c : C) (r : Row) (hr : r.length ≤ 1000) (H : Hp) (hl : hLen c = some r.length) (hc : hCells H c = some (r.map sC)) (Φ : Phi) (Ψ : Psi) (f : Nat) :
    slices_Clone_string_string Φ Ψ f c H = some (.one (cpC r H), cpH r H) := by
  rw [slices_Clone_string_string, hl, hc]
  have hb : (([] : List (List D)).length + (r.map sC).length) * 16 ≤ 140737488355328 := by simp; omega
  simp only [Option.bind_some, hb, decide_true, xif_tt]
  cases r with
  | nil => simp [xnil, xboth, hApp, isSlC, xokR, xokC, C.hok, cpC, cpH]
  | cons s q => simp [xnil, hApp, xOnes, xokR, xokC, C.hok, cpC, cpH]
theorem copy_low (r : Row) (H : Hp) : ((some (A.one (cpC r H), cpH r H) : Option (A × Hp)).bind fun p => xlowR p.2 p.1) = some (aR r) := by
  simp only [Option.bind_some, xlowR, cp_low r H 2]
theorem ref08_list_spec (r : Row) (hr : r.length ≤ 1000) (n : Nat) (hn : 1 ≤ n) : (O0 n).Φ i_ref08_list [aR r] = some (aR r) := by
  obtain ⟨m, rfl⟩ := nat_succ (n := n) (k := 0) (by omega)
  rw [ref08_list_run, ref08_list_gen _ r hr [] (hCells_rD [] r)]
  exact copy_low r []
theorem slices_Clone_spec (r : Row) (hr : r.length ≤ 1000) (n : Nat) (hn : 1 ≤ n) : (O0 n).Φ i_slices_Clone_string_string [aR r] = some (aR r) := by
  obtain ⟨m, rfl⟩ := nat_succ (n := n) (k := 0) (by omega)
  rw [slices_Clone_string_string_run, slices_Clone_gen _ r hr [] (by simp [hLen]) (hCells_rD [] r)]
  exact copy_low r []

/-! What two tables have in common. -/
theorem ref08_Texts_spec (a b : Row) (ha : a.length ≤ 1000) (n : Nat) (hn : 1002 ≤ n) : (O0 n).Φ i_ref08_Texts [aR a, aR b] = some (aB (decide (a = b))) := by
  obtain ⟨m, rfl⟩ := nat_succ (n := n) (k := 0) (by omega)
  rw [ref08_Texts_run, ref08_Texts]
  simp only [xite_decide, xite_not, length_rD]
  by_cases hl : a.length = b.length
  · have hl' : (a.length : Int) = b.length := by omega
    simp only [eq_true hl', if_true]
    refine iter_nat a.length (fun k => (rD a, rD b, (k : Int), ())) (fun k => aB (decide (a.drop k = b.drop k))) (fun k rec hk hrec => ?_) m 0 (by omega) (by omega)
    by_cases hlt : k < a.length
    · have hw := wrap_i (k + 1) (by omega) (by omega)
      have hlt' : (k : Int) < a.length := by omega
      have hlb : k < b.length := by omega
      have hr := hrec hlt
      rw [drop_some a k hlt, drop_some b k hlb]
      simp only [ref08_Texts_l0, xite_decide, xite_not, xif_decide, length_rD, hlt', if_true, xElem_rD a k hlt, xElem_rD b k hlb, Option.bind_some, List.length_singleton, Nat.le_refl, getD_one, xDS_s, hw]
      by_cases he : a[k] = b[k]
      · simp only [he, if_true, List.cons.injEq, true_and]; exact hr
      · simp only [he, if_false, List.cons.injEq, false_and, decide_false, xite_false]
    · have hlt' : ¬ (k : Int) < a.length := by omega
      rw [List.drop_of_length_le (by omega), List.drop_of_length_le (by omega)]
      simp only [ref08_Texts_l0, xite_decide, length_rD, hlt', if_false, decide_true]
  · have hl' : ¬ (a.length : Int) = b.length := by omega
    have hab : ¬ a = b := fun e => hl (by rw [e])
    simp only [hl', if_false, hab, decide_false]
theorem ref08_Same_spec (a b : Tab) (ha : a.length ≤ 1000) (hr : ∀ r ∈ a, r.length ≤ 1000) (n : Nat) (hn : 1003 ≤ n) : (O0 n).Φ i_ref08_Same [aT a, aT b] = some (aB (decide (a = b))) := by
  obtain ⟨m, rfl⟩ := nat_succ (n := n) (k := 0) (by omega)
  rw [ref08_Same_run, ref08_Same]
  simp only [xite_decide, xite_not, length_tD]
  by_cases hl : a.length = b.length
  · have hl' : (a.length : Int) = b.length := by omega
    simp only [eq_true hl', if_true]
    refine iter_nat a.length (fun k => (tD a, tD b, (k : Int), ())) (fun k => aB (decide (a.drop k = b.drop k))) (fun k rec hk hrec => ?_) m 0 (by omega) (by omega)
    by_cases hlt : k < a.length
    · have hw := wrap_i (k + 1) (by omega) (by omega)
      have hlt' : (k : Int) < a.length := by omega
      have hlb : k < b.length := by omega
      have hrr := hrec hlt
      have ht := ref08_Texts_spec a[k] b[k] (hr _ (List.getElem_mem hlt)) m (by omega)
      rw [drop_some a k hlt, drop_some b k hlb]
      simp only [ref08_Same_l0, xite_decide, xite_not, xif_decide, length_tD, hlt', if_true, xElem_tD a k hlt, xElem_tD b k hlb, Option.bind_some, List.length_singleton, Nat.le_refl, getD_one, xDL_sl, ht, xAD_d, xDB_v, hw]
      by_cases he : a[k] = b[k]
      · simp only [he, decide_true, xite_true, if_true, List.cons.injEq, true_and]; exact hrr
      · simp only [he, if_false, List.cons.injEq, false_and, decide_false, xite_false]
    · have hlt' : ¬ (k : Int) < a.length := by omega
      rw [List.drop_of_length_le (by omega), List.drop_of_length_le (by omega)]
      simp only [ref08_Same_l0, xite_decide, length_tD, hlt', if_false, decide_true]
  · have hl' : ¬ (a.length : Int) = b.length := by omega
    have hab : ¬ a = b := fun e => hl (by rw [e])
    simp only [hl', if_false, hab, decide_false]
end Go.Av
