/-
  More operations on an abstract state: arithmetic, strings, slices, literals, builtins. Over any program. No toy.
-/
import Derived.Test.YtnfbgleaodkjpaaHvOps
set_option linter.all false
namespace Go.Av
open Go.RowKit

section ops
variable (P : Program) (s : St)

def ibin (op : BinOp) (k : IntKind) (a b : Int) (K : Value → Prop) : Prop :=
  match op with
  | .add => K (.int k (k.wrap (a + b)))
  | .sub => K (.int k (k.wrap (a - b)))
  | .mul => K (.int k (k.wrap (a * b)))
  | .quo => b ≠ 0 ∧ K (.int k (k.wrap (a.tdiv b)))
  | .rem => b ≠ 0 ∧ K (.int k (a.tmod b))
  | .and => K (.int k (k.wrap (BitVec.ofInt k.bits a &&& BitVec.ofInt k.bits b).toNat))
  | .or => K (.int k (k.wrap (BitVec.ofInt k.bits a ||| BitVec.ofInt k.bits b).toNat))
  | .xor => K (.int k (k.wrap (BitVec.ofInt k.bits a ^^^ BitVec.ofInt k.bits b).toNat))
  | .andNot => K (.int k (k.wrap (BitVec.ofInt k.bits a &&& ~~~BitVec.ofInt k.bits b).toNat))
  | .eql => K (.bool (decide (a = b)))
  | .neq => K (.bool (!decide (a = b)))
  | .lss => K (.bool (decide (a < b)))
  | .leq => K (.bool (decide (a ≤ b)))
  | .gtr => K (.bool (decide (b < a)))
  | .geq => K (.bool (decide (b ≤ a)))
  | _ => False

def ishift (op : BinOp) (k : IntKind) (a b : Int) (K : Value → Prop) : Prop :=
  match op with
  | .shl => 0 ≤ b ∧ K (.int k (k.wrap (a * 2 ^ (min b.toNat k.bits))))
  | .shr => 0 ≤ b ∧ K (.int k (a.fdiv (2 ^ (min b.toNat k.bits))))
  | _ => False

def sbin (op : BinOp) (a b : List UInt8) (K : D → Prop) : Prop :=
  match op with
  | .add => a.length + b.length ≤ 9223372036854775807 ∧ K (.s (a ++ b))
  | .eql => K (.v (.bool (decide (a = b))))
  | .neq => K (.v (.bool (!decide (a = b))))
  | .lss => K (.v (.bool (Op.bytesLess a b)))
  | .leq => K (.v (.bool (Op.bytesLess a b || decide (a = b))))
  | .gtr => K (.v (.bool (!(Op.bytesLess a b || decide (a = b)))))
  | .geq => K (.v (.bool (!Op.bytesLess a b)))
  | _ => False

def isShift : BinOp → Bool | .shl => true | .shr => true | _ => false

def tbool (t : TypeId) : Bool := match P.underlying t with | some .bool => true | _ => false

def aBin (op : BinOp) (t : TypeId) (x y : Operand) (K : A → St → Prop) : Prop :=
  match aeval s x, aeval s y with
  | .one (.d (.v (.int k a))), .one (.d (.v (.int k' b))) => (match isShift op with
      | true => ishift op k a b fun v => K (.one (.d (.v v))) s
      | false => k = k' ∧ ibin op k a b fun v => K (.one (.d (.v v))) s)
  | .one (.d (.v (.bool a))), .one (.d (.v (.bool b))) => tbool P t = true ∧ (match op with
      | .eql => K (.one (.d (.v (.bool (a == b))))) s
      | .neq => K (.one (.d (.v (.bool (!(a == b)))))) s
      | _ => False)
  | .one (.d (.s a)), .one (.d (.s b)) => sbin op a b fun d => K (.one (.d d)) s
  | _, _ => False

def aUn (op : UnOp) (x : Operand) (K : A → St → Prop) : Prop :=
  match op, aeval s x with
  | .not, .one (.d (.v (.bool b))) => K (.one (.d (.v (.bool !b)))) s
  | .neg, .one (.d (.v (.int k n))) => K (.one (.d (.v (.int k (k.wrap (0 - n)))))) s
  | .xor, .one (.d (.v (.int k n))) => K (.one (.d (.v (.int k (k.wrap (BitVec.ofInt k.bits (if k.signed then -1 else k.max) ^^^ BitVec.ofInt k.bits n).toNat))))) s
  | _, _ => False

def aConvert (src dst : TypeId) (x : Operand) (K : A → St → Prop) : Prop :=
  match aeval s x with
  | .one (.d (.v (.int _ n))) => (match tint P dst with | some k => (P.underlying src).isSome = true ∧ K (.one (.d (.v (.int k (k.wrap n))))) s | none => False)
  | .one (.d (.s l)) => tstr P dst = true ∧ (P.underlying src).isSome = true ∧ K (.one (.d (.s l))) s
  | _ => False

def obd (dflt : Int) : Option Operand → Option Int
  | none => some dflt
  | some o => match aeval s o with | .one (.d (.v (.int _ i))) => some i | _ => none

def aSlice (t : TypeId) (x : Operand) (lo hi mx : Option Operand) (K : A → St → Prop) : Prop :=
  match mx with
  | none => (match aeval s x with
    | .one (.d (.s l)) => (match obd s 0 lo, obd s l.length hi with
      | some a, some b => tstr P t = true ∧ 0 ≤ a ∧ a ≤ b ∧ b ≤ l.length ∧ K (.one (.d (.s ((l.take b.toNat).drop a.toNat)))) s
      | _, _ => False)
    | r => (match telem P t with
      | some e => (match tsz P e with
        | some sz => (match slElems r with
          | some es => (match obd s 0 lo, obd s es.length hi with
            | some a, some b => (∀ y ∈ es, y.length = sz) ∧ 0 ≤ a ∧ a ≤ b ∧ b ≤ es.length ∧ K (.one (.d (.sl ((es.take b.toNat).drop a.toNat)))) s
            | _, _ => False)
          | none => (match r with
            | .one (.msl id off len cap sz') => (match obd s 0 lo, obd s len hi with
              | some a, some b => sz' = sz ∧ 0 ≤ a ∧ a ≤ b ∧ b ≤ len ∧ len ≤ cap ∧ (a < b → K (.one (.msl id (off + a.toNat * sz) (b - a).toNat (cap - a.toNat) sz)) s) ∧ (a = b → K (.one (.d (.sl []))) s)
              | _, _ => False)
            | _ => False))
        | none => False)
      | none => False))
  | some m => (match telem P t with
      | some e => (match tsz P e with
        | some sz => (match slElems (aeval s x) with
          | some es => (match obd s 0 lo, obd s es.length hi, obd s 0 (some m) with
            | some a, some b, some c => hi.isSome = true ∧ (∀ y ∈ es, y.length = sz) ∧ 0 ≤ a ∧ a ≤ b ∧ b ≤ es.length ∧ c = b ∧ K (.one (.full ((es.take b.toNat).drop a.toNat))) s
            | _, _, _ => False)
          | none => False)
        | none => False)
      | none => False)

def aLen (t : TypeId) (x : Operand) (K : A → St → Prop) : Prop :=
  match tarr P t with
  | some (n, _) => K (.one (.d (.v (.int .i64 n)))) s
  | none => (match aeval s x with
    | .one (.d (.s l)) => tstr P t = true ∧ K (.one (.d (.v (.int .i64 l.length)))) s
    | .one (.msl _ _ len _ _) => (telem P t).isSome = true ∧ K (.one (.d (.v (.int .i64 len)))) s
    | r => (match slElems r with
      | some es => (telem P t).isSome = true ∧ K (.one (.d (.v (.int .i64 es.length)))) s
      | none => False))

def aAppend (t : TypeId) (x y : Operand) (K : A → St → Prop) : Prop :=
  match telem P t with
  | some e => (match tsz P e, tbytes P e, tzero P e with
    | some sz, some by_, some z => z.length = sz ∧ 0 < sz ∧ 0 < by_ ∧ (match slElems (aeval s y) with
      | some xs => (∀ c ∈ xs, c.length = sz) ∧ (match aeval s x with
        | .one (.full es) => (∀ c ∈ es, c.length = sz) ∧ (es.length + xs.length) * by_ ≤ 140737488355328 ∧ K (.one (.app (es ++ xs) s.n)) ((s.tok e es.length).grow s.n e (es.length + xs.length))
        | .one (.app es k) => s.tip k = some (e, es.length) ∧ (∀ c ∈ es, c.length = sz) ∧ (es.length + xs.length) * by_ ≤ 140737488355328 ∧ K (.one (.app (es ++ xs) k)) (s.grow k e (es.length + xs.length))
        | _ => False)
      | none => False)
    | _, _, _ => False)
  | none => False

def aMin (mn : Bool) (x y : Operand) (K : A → St → Prop) : Prop :=
  match aeval s x, aeval s y with
  | .one (.d (.v (.int k a))), .one (.d (.v (.int _ b))) => K (.one (.d (.v (.int k (match mn with | true => if b < a then b else a | false => if b > a then b else a))))) s
  | _, _ => False

def refIds : List Operand → Option (List Nat)
  | [] => some []
  | o :: r => match aeval s o, refIds r with
    | .one (.ref id 0), some ids => some (id :: ids)
    | _, _ => none

def aMakeFunc (fn : Fn) (first captured : Array Operand) (K : A → St → Prop) : Prop :=
  match fn, first.toList, refIds s captured.toList with
  | .func f, [], some [] => K (.one (.d (.clo f []))) s
  | .func f, [], some ids => K (.one (.clo f ids)) s
  | _, _, _ => False

def aMake (t : TypeId) (l c : Operand) (K : A → St → Prop) : Prop :=
  match telem P t, aeval s l, aeval s c with
  | some e, .one (.d (.v (.int _ a))), .one (.d (.v (.int _ b))) => (match tsz P e, tbytes P e, tzero P e with
    | some sz, some by_, some z => z.length = sz ∧ 0 < sz ∧ a = b ∧ 0 ≤ a ∧ a ≤ 9223372036854775807 ∧ by_ * a ≤ 281474976710656 ∧
        K (.one (.msl s.n 0 a.toNat a.toNat sz)) (s.new (List.replicate a.toNat z).flatten)
    | _, _, _ => False)
  | _, _, _ => False

end ops

section sound
variable {P : Program} {x : Ent} {s : St} {a : Act} {w : World} {K : A → St → Prop}

theorem evals (h : RepSt P x s a w) (o : Operand) : ∃ W E, RepA w W E (aeval s o) (a.eval o) := by
  obtain ⟨_, _, E, _, h4⟩ := h; exact ⟨_, E, aeval_rep h4 o⟩
theorem eval_v (h : RepSt P x s a w) {o : Operand} {u : Value} (he : aeval s o = .one (.d (.v u))) : a.eval o = u := by
  obtain ⟨W, E, hr⟩ := evals h o; rw [he] at hr; exact v_inv hr
theorem eval_s (h : RepSt P x s a w) {o : Operand} {l : List UInt8} (he : aeval s o = .one (.d (.s l))) : a.eval o = .string ⟨l.toArray⟩ := by
  obtain ⟨W, E, hr⟩ := evals h o; rw [he] at hr; exact s_inv hr

theorem run_equalIn_bool (w : World) (d : Nat) (t : TypeId) (m n : Bool) (h : P.underlying t = some .bool) : (Op.equalIn (d + 1) t (.bool m) (.bool n)).run P w = .ok (m == n) w := by
  simp [Op.equalIn, run_underlying h]
theorem run_guard_int (op : BinOp) (t : TypeId) (o1 o2 : Operand) (k k' : IntKind) (m n : Int) : (eqGuard op t o1 o2 (.int k m) (.int k' n)).run P w = .ok () w := by cases op <;> rfl
theorem run_guard_str (op : BinOp) (t : TypeId) (o1 o2 : Operand) (m n : ByteArray) : (eqGuard op t o1 o2 (.string m) (.string n)).run P w = .ok () w := by cases op <;> rfl
theorem run_guard_bool (op : BinOp) (t : TypeId) (o1 o2 : Operand) (m n : Bool) : (eqGuard op t o1 o2 (.bool m) (.bool n)).run P w = .ok () w := by cases op <;> rfl

theorem ibin_sound {op : BinOp} {k : IntKind} {m n : Int} {Kv : Value → Prop} (hs : isShift op = false) (hK : ibin op k m n Kv) (t : TypeId) (o1 o2 : Operand) :
    ∃ v, (do eqGuard op t o1 o2 (.int k m) (.int k n); binOp op t (.int k m) (.int k n) : Sem Value).run P w = .ok v w ∧ Kv v ∧ v.oneCell' = true := by
  cases op <;> simp only [ibin, isShift] at hK hs
  all_goals first | exact hK.elim | skip
  all_goals simp only [Sem.run_bind, run_guard_int, Result.andThen_ok]
  case quo => obtain ⟨h0, hK⟩ := hK; exact ⟨_, by simp [binOp, Op.intDiv, h0], hK, rfl⟩
  case rem => obtain ⟨h0, hK⟩ := hK; exact ⟨_, by simp [binOp, Op.intDiv, h0], hK, rfl⟩
  case add => exact ⟨_, by simp [binOp, Op.intArith], hK, rfl⟩
  case sub => exact ⟨_, by simp [binOp, Op.intArith], hK, rfl⟩
  case mul => exact ⟨_, by simp [binOp, Op.intArith], hK, rfl⟩
  case and => exact ⟨_, by simp [binOp, Op.intBits], hK, rfl⟩
  case or => exact ⟨_, by simp [binOp, Op.intBits], hK, rfl⟩
  case xor => exact ⟨_, by simp [binOp, Op.intBits], hK, rfl⟩
  case andNot => exact ⟨_, by simp [binOp, Op.intBits], hK, rfl⟩
  case eql => exact ⟨.bool (decide (m = n)), by simp [binOp, Op.intCmp]; rfl, hK, rfl⟩
  case neq => exact ⟨.bool (!decide (m = n)), by simp [binOp, Op.intCmp]; rfl, hK, rfl⟩
  case lss => exact ⟨.bool (decide (m < n)), by simp [binOp, Op.intCmp], hK, rfl⟩
  case leq => exact ⟨.bool (decide (m ≤ n)), by simp [binOp, Op.intCmp], hK, rfl⟩
  case gtr => exact ⟨.bool (decide (n < m)), by simp [binOp, Op.intCmp], hK, rfl⟩
  case geq => exact ⟨.bool (decide (n ≤ m)), by simp [binOp, Op.intCmp], hK, rfl⟩

theorem aBin_sound (h : RepSt P x s a w) {op : BinOp} {t : TypeId} {y z : Operand} (hK : aBin P s op t y z K) :
    OpOK P x s a w (do pure (.value (← (do eqGuard op t y z (a.eval y) (a.eval z); binOp op t (a.eval y) (a.eval z) : Sem Value)))) K := by
  unfold aBin at hK
  split at hK
  · rename_i k m k' n hy hz
    rw [eval_v h hy, eval_v h hz]
    split at hK
    · rename_i hs
      cases op <;> simp only [isShift, Bool.false_eq_true] at hs
      · obtain ⟨h0, hK⟩ := hK
        have h0' : ¬ n < 0 := by omega
        exact OpOK.pure h (v := .int k _) (by simp [run_guard_int, binOp, Op.shift, h0']) (fun _ _ _ => RepA.v _ rfl) hK
      · obtain ⟨h0, hK⟩ := hK
        have h0' : ¬ n < 0 := by omega
        exact OpOK.pure h (v := .int k _) (by simp [run_guard_int, binOp, Op.shift, h0']) (fun _ _ _ => RepA.v _ rfl) hK
    · rename_i hs
      obtain ⟨rfl, hK⟩ := hK
      obtain ⟨v, hrun, hk, hone⟩ := ibin_sound (P := P) (w := w) hs hK t y z
      refine OpOK.pure h (v := v) ?_ (fun _ _ _ => RepA.v _ hone) hk
      rw [Sem.run_bind, hrun]; rfl
  · rename_i b1 b2 hy hz
    rw [eval_v h hy, eval_v h hz]
    obtain ⟨ht, hK⟩ := hK
    have hu : P.underlying t = some .bool := by unfold tbool at ht; split at ht <;> first | assumption | cases ht
    have he : (Op.equal t (.bool b1) (.bool b2)).run P w = .ok (b1 == b2) w := run_equalIn_bool w 9999 t b1 b2 hu
    split at hK
    · exact OpOK.pure h (v := .bool (b1 == b2)) (by simp [run_guard_bool, binOp, he]) (fun _ _ _ => RepA.v _ rfl) hK
    · exact OpOK.pure h (v := .bool (!(b1 == b2))) (by simp [run_guard_bool, binOp, he]) (fun _ _ _ => RepA.v _ rfl) hK
    · exact hK.elim
  · rename_i l1 l2 hy hz
    rw [eval_s h hy, eval_s h hz]
    have beqd : (l1 == l2) = decide (l1 = l2) := by rw [Bool.eq_iff_iff]; simp
    have g1 : ∀ l : List UInt8, (⟨l.toArray⟩ : ByteArray).size = l.length := fun l => by simp [ByteArray.size]
    cases op <;> simp only [sbin] at hK
    all_goals first | exact hK.elim | skip
    case add =>
      obtain ⟨h0, hK⟩ := hK
      have h0' : ¬ (9223372036854775807 < (l1.length : Int) + l2.length) := by omega
      refine OpOK.pure h (v := .string ⟨(l1 ++ l2).toArray⟩) ?_ (fun _ _ _ => RepA.s _) hK
      have : (⟨l1.toArray⟩ : ByteArray) ++ ⟨l2.toArray⟩ = ⟨(l1 ++ l2).toArray⟩ := by
        apply ByteArray.ext; simp
      have hmx : IntKind.i64.max = 9223372036854775807 := by decide
      simp only [Sem.run_bind, run_guard_str, Result.andThen_ok, binOp, Op.stringOp, g1, hmx, this]
      rw [if_neg (by omega)]
      rfl
    case eql => exact OpOK.pure h (v := .bool (decide (l1 = l2))) (by simp [run_guard_str, binOp, Op.stringOp, beqd]) (fun _ _ _ => RepA.v _ rfl) hK
    case neq => exact OpOK.pure h (v := .bool (!decide (l1 = l2))) (by simp [run_guard_str, binOp, Op.stringOp, beqd]) (fun _ _ _ => RepA.v _ rfl) hK
    case lss => exact OpOK.pure h (v := .bool (Op.bytesLess l1 l2)) (by simp [run_guard_str, binOp, Op.stringOp]) (fun _ _ _ => RepA.v _ rfl) hK
    case leq => exact OpOK.pure h (v := .bool (Op.bytesLess l1 l2 || decide (l1 = l2))) (by simp [run_guard_str, binOp, Op.stringOp, beqd]) (fun _ _ _ => RepA.v _ rfl) hK
    case gtr => exact OpOK.pure h (v := .bool (!(Op.bytesLess l1 l2 || decide (l1 = l2)))) (by simp [run_guard_str, binOp, Op.stringOp, beqd]) (fun _ _ _ => RepA.v _ rfl) hK
    case geq => exact OpOK.pure h (v := .bool (!Op.bytesLess l1 l2)) (by simp [run_guard_str, binOp, Op.stringOp]) (fun _ _ _ => RepA.v _ rfl) hK
  · exact hK.elim

theorem aUn_sound (h : RepSt P x s a w) {op : UnOp} {y : Operand} (hK : aUn s op y K) : OpOK P x s a w (do pure (.value (← Op.unary op (a.eval y)))) K := by
  unfold aUn at hK
  split at hK
  · rename_i b hy
    rw [eval_v h hy]
    exact OpOK.pure h (v := .bool (!b)) (by simp [Op.unary]) (fun _ _ _ => RepA.v _ rfl) hK
  · rename_i k n hy
    rw [eval_v h hy]
    exact OpOK.pure h (v := .int k _) (by simp only [Op.unary, Op.intArith]; rfl) (fun _ _ _ => RepA.v _ rfl) hK
  · rename_i k n hy
    rw [eval_v h hy]
    exact OpOK.pure h (v := .int k _) (by simp only [Op.unary, Op.intBits]; rfl) (fun _ _ _ => RepA.v _ rfl) hK
  · exact hK.elim

theorem aConvert_sound (h : RepSt P x s a w) {t1 t2 : TypeId} {y : Operand} (hK : aConvert P s t1 t2 y K) : OpOK P x s a w (do pure (.value (← convert t1 t2 (a.eval y)))) K := by
  unfold aConvert at hK
  split at hK
  · rename_i k0 n hy
    rw [eval_v h hy]
    split at hK
    · rename_i k hk
      obtain ⟨h1, hK⟩ := hK
      obtain ⟨d, hd⟩ := Option.isSome_iff_exists.1 h1
      refine OpOK.pure h (v := .int k (k.wrap n)) ?_ (fun _ _ _ => RepA.v _ rfl) hK
      simp [convert, run_underlying hd, run_underlying (tint_und hk), Conv.intToInt]
    · exact hK.elim
  · rename_i l hy
    obtain ⟨h2, h1, hK⟩ := hK
    rw [eval_s h hy]
    obtain ⟨d, hd⟩ := Option.isSome_iff_exists.1 h1
    refine OpOK.pure h (v := .string ⟨l.toArray⟩) ?_ (fun _ _ _ => RepA.s _) hK
    simp [convert, run_underlying hd, run_underlying (tstr_und h2)]
  · exact hK.elim

theorem aLen_sound (h : RepSt P x s a w) {t ty : TypeId} {y : Operand} (hK : aLen P s t y K) : OpOK P x s a w (do pure (.value (← Builtin.len_ #[t] ty #[a.eval y]))) K := by
  unfold aLen at hK
  split at hK
  · rename_i n e ht
    have hu := tarr_und ht
    exact OpOK.pure h (v := .int .i64 n) (by simp [Builtin.len_, run_underlying hu, goInt]) (fun _ _ _ => RepA.v _ rfl) hK
  · split at hK
    · rename_i l hy
      obtain ⟨h1, hK⟩ := hK
      rw [eval_s h hy]
      refine OpOK.pure h (v := .int .i64 l.length) ?_ (fun _ _ _ => RepA.v _ rfl) hK
      have g1 : (⟨l.toArray⟩ : ByteArray).size = l.length := by simp [ByteArray.size]
      simp [Builtin.len_, run_underlying (tstr_und h1), goInt, g1]
    · rename_i id off len cap sz hy
      obtain ⟨h1, hK⟩ := hK
      obtain ⟨e, he⟩ := Option.isSome_iff_exists.1 h1
      obtain ⟨W, E, hr⟩ := evals h y
      rw [hy] at hr
      obtain ⟨_, hval⟩ := one_inv hr
      rw [hval]
      exact OpOK.pure h (v := .int .i64 len) (by simp [Builtin.len_, run_underlying (telem_und he), goInt]) (fun _ _ _ => RepA.v _ rfl) hK
    · split at hK
      · rename_i es hes
        obtain ⟨h1, hK⟩ := hK
        obtain ⟨e, he⟩ := Option.isSome_iff_exists.1 h1
        obtain ⟨W, E, hr⟩ := evals h y
        have hd := slElems_rep hr hes
        obtain ⟨base, cap, hval⟩ : ∃ base cap, a.eval y = .slice base es.length cap := by
          generalize a.eval y = va at hd
          cases hd with
          | nil base cap => exact ⟨base, cap, rfl⟩
          | sl _ sz b off cap f => exact ⟨_, cap, rfl⟩
        rw [hval]
        exact OpOK.pure h (v := .int .i64 es.length) (by simp [Builtin.len_, run_underlying (telem_und he), goInt]) (fun _ _ _ => RepA.v _ rfl) hK
      · exact hK.elim

theorem aMin_sound (h : RepSt P x s a w) {mn : Bool} {ts : Array TypeId} {ty : TypeId} {y z : Operand} (hK : aMin s mn y z K) :
    OpOK P x s a w (do pure (.value (← (match mn with | true => Builtin.min_ ts ty #[a.eval y, a.eval z] | false => Builtin.max_ ts ty #[a.eval y, a.eval z])))) K := by
  unfold aMin at hK
  split at hK
  · rename_i k m k' n hy hz
    rw [eval_v h hy, eval_v h hz]
    cases mn with
    | true => exact OpOK.pure h (v := .int k _) (by simp only [Builtin.min_, List.foldlM, Builtin.min2]; rfl) (fun _ _ _ => RepA.v _ rfl) hK
    | false => exact OpOK.pure h (v := .int k _) (by simp only [Builtin.max_, List.foldlM, Builtin.max2]; rfl) (fun _ _ _ => RepA.v _ rfl) hK
  · exact hK.elim

theorem refIds_rep {W : WSet} {E : Env} (h4 : ∀ i, RepA w W E (s.t i) (a.tmps.getD i undef)) : ∀ (l : List Operand) (ids : List Nat), refIds s l = some ids →
    (∀ id ∈ ids, id < E.n) ∧ l.map a.eval = ids.map fun id => Value.pointer (some ⟨E.β id, 0, none⟩)
  | [], ids, h => by simp only [refIds, Option.some.injEq] at h; subst h; simp
  | o :: r, ids, h => by
    unfold refIds at h
    split at h
    · rename_i id ids' ho hr
      simp only [Option.some.injEq] at h
      subst h
      have h1 := aeval_rep h4 o
      rw [ho] at h1
      obtain ⟨hlt, hval⟩ := one_inv h1
      obtain ⟨h2, h3⟩ := refIds_rep h4 r ids' hr
      refine ⟨fun i hi => (List.mem_cons.1 hi).elim (fun e => e ▸ hlt) (h2 i), ?_⟩
      rw [List.map_cons, List.map_cons, h3, hval]
    · cases h

theorem aMakeFunc_sound (h : RepSt P x s a w) {fn : Fn} {first captured : Array Operand} (hK : aMakeFunc s fn first captured K) :
    OpOK P x s a w (do pure (.value (← Instr.makeFunc fn (first.map a.eval) (captured.map a.eval)))) K := by
  unfold aMakeFunc at hK
  split at hK
  · rename_i f hf hc
    obtain ⟨W, E, _⟩ := evals h (.const undef)
    have hfe : first = #[] := by simpa using hf
    obtain ⟨_, _, E, _, h4⟩ := id h
    have := (refIds_rep h4 _ _ hc).2
    have hce : captured.map a.eval = #[] := by
      apply Array.toList_inj.1; simpa using this
    subst hfe
    rw [hce]
    exact OpOK.pure h (v := .func (.func f) #[] #[]) (by simp [Instr.makeFunc]) (fun _ _ _ => .one (.d (.clo f [])) _ (RepD.clo f [] [] rfl (by simp))) hK
  · rename_i f ids _ hf hc
    have hfe : first = #[] := by simpa using hf
    subst hfe
    obtain ⟨h1, h2, E, h3, h4⟩ := h
    have hr := refIds_rep h4 _ _ hc
    have hce : captured.map a.eval = (ids.map fun id => Value.pointer (some ⟨E.β id, 0, none⟩)).toArray := by
      apply Array.toList_inj.1; simpa using hr.2
    refine ⟨_, w, .one (.clo f ids), s, .inl ?_, ⟨h1, h2, E, h3, h4, .one _ _ ⟨hr.1, rfl⟩⟩, hK, rfl⟩
    rw [hce]; simp [Instr.makeFunc]
  · exact hK.elim

theorem maxLen_eq : maxLen = 9223372036854775807 := by rfl

theorem aAppend_sound (hx : x.ok) (h : RepSt P x s a w) {t ty : TypeId} {y z : Operand} (hK : aAppend P s t y z K) :
    OpOK P x s a w (do pure (.value (← Builtin.append_ #[t, t] ty #[a.eval y, a.eval z]))) K := by
  unfold aAppend at hK
  split at hK
  · rename_i e he
    have hu := telem_und he
    split at hK
    · rename_i sz by_ zc hsz hby hzero
      obtain ⟨hzl, hsz0, hby0, hK⟩ := hK
      obtain ⟨i, hi, hisz⟩ := tsz_info hsz
      have hiby : i.bytes = by_ := by unfold tbytes at hby; simpa [hi] using hby
      obtain ⟨zv, hzv, hzc⟩ : ∃ zv, i.zero = some zv ∧ (aval zv).cells = some zc := by
        unfold tzero at hzero
        cases hzz : i.zero with
        | none => simp [hi, hzz] at hzero
        | some zv => simp only [hi, hzz, Option.bind_some] at hzero; exact ⟨zv, rfl, hzero⟩
      have hzs : zv.cells.size = i.size := by
        have := (values_of_cells (w := w) (W := fun _ _ => False) (E := x.E0) (.aval zv) hzc).1
        rw [hisz, ← hzl]; simpa using this
      subst hisz
      subst hiby
      split at hK
      · rename_i xs hxs
        obtain ⟨hxl, hK⟩ := hK
        have hu2 : ∀ (s' : St), (∀ i, s'.t i = s.t i) → ∀ E, RepE P x s' w E → (∀ i, RepA w (Wn x s' E) E (s'.t i) (a.tmps.getD i undef)) → RepD w (Wn x s' E) (.sl xs) (a.eval z) := fun s' hs E _ h4 => by
          have h5 := aeval_rep (s := s') h4 z
          have : aeval s' z = aeval s z := by cases z <;> simp [aeval, hs]
          rw [this] at h5
          exact slElems_rep h5 hxs
        have h63 : ∀ n, n * i.bytes ≤ 140737488355328 → n ≤ maxLen := fun n hn => by
          have := Nat.mul_le_mul_left n hby0
          rw [maxLen_eq]; omega
        split at hK
        · rename_i es hes
          obtain ⟨hel, hb, hK⟩ := hK
          have hv := eval_sv h y
          rw [hes] at hv
          have hv := hv.tok e
          obtain ⟨v', w', hrun, hrep⟩ := RepSV.append hx hv (hu2 _ (fun _ => rfl)) t ty e i zv hu hi hzv hzs hsz0 (by simp [St.tok]) hel hxl hb (h63 _ hb)
          exact ⟨v', w', _, _, .inl (by simp [hrun]), hrep, hK, rfl⟩
        · rename_i es k hes
          obtain ⟨htip, hel, hb, hK⟩ := hK
          have hv := eval_sv h y
          rw [hes] at hv
          obtain ⟨v', w', hrun, hrep⟩ := RepSV.append hx hv (hu2 _ (fun _ => rfl)) t ty e i zv hu hi hzv hzs hsz0 htip hel hxl hb (h63 _ hb)
          exact ⟨v', w', _, _, .inl (by simp [hrun]), hrep, hK, rfl⟩
        · exact hK.elim
      · exact hK.elim
    · exact hK.elim
  · exact hK.elim

end sound
end Go.Av
