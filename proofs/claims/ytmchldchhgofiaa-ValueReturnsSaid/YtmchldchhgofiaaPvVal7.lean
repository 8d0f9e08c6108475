/-
  The functions on values: what they give, 7: default values, types by name; calls, taken one at a time.
-/
import Derived.Test.YtmchldchhgofiaaPvVal6
set_option linter.all false
set_option linter.unusedSimpArgs false
namespace Go.Av

section
variable {R : Type} {c : Option A}
theorem cG {ty num : Int} {text : List UInt8} {items : List (List D)} (h : c = some (aG ty num text items)) (K : Int → Int → List UInt8 → List (List D) → Option R) :
    (c.bind fun r => (xADs r).bind fun d => xif (decide (d.length = 4)) ((xDI .i64 (d.getD 0 (.s []))).bind fun n1 => (xDI .i64 (d.getD 1 (.s []))).bind fun n2 => (xDS (d.getD 2 (.s []))).bind fun s => (xDL (d.getD 3 (.s []))).bind fun l => K n1 n2 s l)) = K ty num text items := by
  rw [h]; simp
theorem cB {b : Bool} (h : c = some (aB b)) (K : Bool → Option R) : (c.bind fun r => (xAD r).bind fun d => (xDB d).bind fun b => K b) = K b := by rw [h]; simp
theorem cN {b : Int} (h : c = some (aI b)) (K : Int → Option R) : (c.bind fun r => (xAD r).bind fun d => (xDI .i64 d).bind fun b => K b) = K b := by rw [h]; simp
theorem cS {b : List UInt8} (h : c = some (aS b)) (K : List UInt8 → Option R) : (c.bind fun r => (xAD r).bind fun d => (xDS d).bind fun b => K b) = K b := by rw [h]; simp
/-- A value and a number. -/
theorem cGI {ty num e : Int} {text : List UInt8} {items : List (List D)} (h : c = some (.tup [aG ty num text items, aI e])) (K : Int → Int → List UInt8 → List (List D) → Int → Option R) :
    (c.bind fun r => (xtup r 0).bind fun a => (xADs a).bind fun d => xif (decide (d.length = 4)) ((xDI .i64 (d.getD 0 (.s []))).bind fun n1 => (xDI .i64 (d.getD 1 (.s []))).bind fun n2 => (xDS (d.getD 2 (.s []))).bind fun s => (xDL (d.getD 3 (.s []))).bind fun l =>
      (xtup r 1).bind fun a => (xAD a).bind fun d => (xDI .i64 d).bind fun e => K n1 n2 s l e)) = K ty num text items e := by
  rw [h]; simp
/-- A number and whether. -/
theorem cIB {e : Int} {b : Bool} (h : c = some (.tup [aI e, aB b])) (K : Int → Bool → Option R) :
    (c.bind fun r => (xtup r 0).bind fun a => (xAD a).bind fun d => (xDI .i64 d).bind fun e => (xtup r 1).bind fun a => (xAD a).bind fun d => (xDB d).bind fun b => K e b) = K e b := by
  rw [h]; simp
/-- A list and whether. -/
theorem cLB {e : List (List D)} {b : Bool} (h : c = some (.tup [.one (.d (.sl e)), aB b])) (K : List (List D) → Bool → Option R) :
    (c.bind fun r => (xtup r 0).bind fun a => (xAD a).bind fun d => (xDL d).bind fun e => (xtup r 1).bind fun a => (xAD a).bind fun d => (xDB d).bind fun b => K e b) = K e b := by
  rw [h]; simp
end

theorem value_OfPattern_spec (x : List UInt8) (n : Nat) (hn : 1 ≤ n) : Φ0 n i_value_OfPattern [aS x] = some (aG 8 0 x []) := by
  obtain ⟨m, rfl⟩ := nat_succ hn
  rw [value_OfPattern_run]; rfl
theorem ref01_OfPattern_spec (x : List UInt8) (n : Nat) (hn : 1 ≤ n) : Φ0 n i_ref01_OfPattern [aS x] = some (aG 8 0 x []) := by
  obtain ⟨m, rfl⟩ := nat_succ hn
  rw [ref01_OfPattern_run]; rfl
theorem value_OfBits_spec (x : Int) (n : Nat) (hn : 1 ≤ n) : Φ0 n i_value_OfBits [aI x] = some (aG 4 x [] []) := by
  obtain ⟨m, rfl⟩ := nat_succ hn
  rw [value_OfBits_run]; rfl
theorem ref01_OfBits_spec (x : Int) (n : Nat) (hn : 1 ≤ n) : Φ0 n i_ref01_OfBits [aI x] = some (aG 4 x [] []) := by
  obtain ⟨m, rfl⟩ := nat_succ hn
  rw [ref01_OfBits_run]; rfl
theorem value_OfBool_spec (x : Bool) (n : Nat) (hn : 1 ≤ n) : Φ0 n i_value_OfBool [aB x] = some (aG 1 (if x then 1 else 0) [] []) := by
  obtain ⟨m, rfl⟩ := nat_succ hn
  rw [value_OfBool_run]; cases x <;> rfl
theorem ref01_OfBool_spec (x : Bool) (n : Nat) (hn : 1 ≤ n) : Φ0 n i_ref01_OfBool [aB x] = some (aG 1 (if x then 1 else 0) [] []) := by
  obtain ⟨m, rfl⟩ := nat_succ hn
  rw [ref01_OfBool_run]; cases x <;> rfl

/-- The least value of a type. -/
def dflt (t : Int) : GV := if t < 1 then .mk 0 0 [] [] else if 8 < t then .mk 0 0 [] [] else if t = 2 then .mk 2 (-1000000) [] [] else if t = 8 then .mk 8 0 [32] [] else .mk t 0 [] []
def dfltE (t : Int) : Int := if t < 1 then 3 else if 8 < t then 3 else 0
theorem dflt_items (t : Int) : (dflt t).items = [] := by unfold dflt; (repeat' split) <;> rfl
theorem dflt_ok (t : Int) : (dflt t).Ok := by
  unfold dflt
  (repeat' split) <;> exact .mk _ _ _ _ (by simp) (by simp) (by omega) (by omega) (by simp)
theorem dflt_wt (t : Int) : (dflt t).wt ≤ 3 := by unfold dflt; (repeat' split) <;> simp [GV.wt, GV.wtL]
theorem value_Default_spec (t : Int) (n : Nat) (hn : 2 ≤ n) : Φ0 n i_value_Default [aI t] = some (A.tup [aG (dflt t).ty (dflt t).num (dflt t).text [], aI (dfltE t)]) := by
  obtain ⟨m, rfl⟩ := nat_succ (n := n) (k := 0) (by omega)
  rw [value_Default_run]
  simp only [value_Default, xite_decide, cG (value_OfInt_spec (-1000000) m (by omega)), cG (value_OfPattern_spec [32] m (by omega)), dflt, dfltE]
  (repeat' split) <;> first | rfl | omega
theorem ref01_Default_spec (t : Int) (n : Nat) (hn : 2 ≤ n) : Φ0 n i_ref01_Default [aI t] = some (A.tup [aG (dflt t).ty (dflt t).num (dflt t).text [], aI (dfltE t)]) := by
  obtain ⟨m, rfl⟩ := nat_succ (n := n) (k := 0) (by omega)
  rw [ref01_Default_run]
  simp only [ref01_Default, xite_decide, cG (ref01_OfInt_spec (-1000000) m (by omega)), cG (ref01_OfPattern_spec [32] m (by omega)), dflt, dfltE]
  (repeat' split) <;> first | rfl | omega

/-- The type with a name, of the last ones. -/
def typeP (s : List UInt8) : Nat → Int × Bool
  | 0 => (0, false)
  | j + 1 => if typeN (8 - j) = s then (8 - j, true) else typeP s j
theorem value_ParseType_spec (s : List UInt8) (n : Nat) (hn : 12 ≤ n) : Φ0 n i_value_ParseType [aS s] = some (A.tup [aI (typeP s 8).1, aB (typeP s 8).2]) := by
  obtain ⟨m, rfl⟩ := nat_succ (n := n) (k := 0) (by omega)
  rw [value_ParseType_run]
  simp only [value_ParseType]
  refine iter_nat 8 (fun k => (s, (k : Int) + 1, ())) (fun k => A.tup [aI (typeP s (8 - k)).1, aB (typeP s (8 - k)).2]) (fun k rec hk hrec => ?_) m 0 (by omega) (by omega)
  by_cases hlt : k < 8
  · have hw := wrap_i ((k : Int) + 1 + 1) (by omega) (by omega)
    have hr := hrec (by omega)
    have hle : (k : Int) + 1 ≤ 8 := by omega
    have hj : 8 - k = (8 - (k + 1)) + 1 := by omega
    have e : (8 : Int) - ((8 - (k + 1) : Nat) : Int) = (k : Int) + 1 := by omega
    simp only [value_ParseType_l0, xite_decide, hle, if_true, hw, cS (value_TypeName_spec ((k : Int) + 1) m (by omega))]
    rw [hj, typeP, e]
    by_cases ht : typeN ((k : Int) + 1) = s
    · simp only [ht, if_true]
    · simp only [ht, if_false]; exact hr
  · have hle : ¬ (k : Int) + 1 ≤ 8 := by omega
    have : 8 - k = 0 := by omega
    simp only [value_ParseType_l0, xite_decide, hle, if_false, this, typeP]
theorem ref01_ParseType_spec (s : List UInt8) (n : Nat) (hn : 12 ≤ n) : Φ0 n i_ref01_ParseType [aS s] = some (A.tup [aI (typeP s 8).1, aB (typeP s 8).2]) := by
  obtain ⟨m, rfl⟩ := nat_succ (n := n) (k := 0) (by omega)
  rw [ref01_ParseType_run]
  simp only [ref01_ParseType]
  refine iter_nat 8 (fun k => (s, (k : Int) + 1, ())) (fun k => A.tup [aI (typeP s (8 - k)).1, aB (typeP s (8 - k)).2]) (fun k rec hk hrec => ?_) m 0 (by omega) (by omega)
  by_cases hlt : k < 8
  · have hw := wrap_i ((k : Int) + 1 + 1) (by omega) (by omega)
    have hr := hrec (by omega)
    have hle : (k : Int) + 1 ≤ 8 := by omega
    have hj : 8 - k = (8 - (k + 1)) + 1 := by omega
    have e : (8 : Int) - ((8 - (k + 1) : Nat) : Int) = (k : Int) + 1 := by omega
    simp only [ref01_ParseType_l0, xite_decide, hle, if_true, hw, cS (ref01_TypeName_spec ((k : Int) + 1) m (by omega))]
    rw [hj, typeP, e]
    by_cases ht : typeN ((k : Int) + 1) = s
    · simp only [ht, if_true]
    · simp only [ht, if_false]; exact hr
  · have hle : ¬ (k : Int) + 1 ≤ 8 := by omega
    have : 8 - k = 0 := by omega
    simp only [ref01_ParseType_l0, xite_decide, hle, if_false, this, typeP]
end Go.Av
