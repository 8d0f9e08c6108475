/-
  One operation, run over an abstract state; sound for the words of AvOps. Over any program. No toy.
-/
import Derived.Test.YtnfbgleaodkjpaaHvX1
set_option linter.all false
namespace Go.Av
open Go.RowKit

section
variable {R : Type} (T : TT)

def xLoadPP (i : TI) (ds : List D) (K : A → Option R) : Option R :=
  xif ((i.cks.length == i.sz) && decide (i.sz ≤ ds.length)) (xDns i.cks 0 ds fun l => match i.agg with
    | true => K (.agg (l.map C.d))
    | false => (match l with | d :: _ => K (.one (.d d)) | [] => none))
def xLoadCs (i : TI) (off : Nat) (cs : List C) (K : A → Option R) : Option R :=
  xif ((i.cks.length == i.sz) && decide (off + i.sz ≤ cs.length)) (xCns i.cks off cs fun l => match i.agg with
    | true => K (.agg l)
    | false => (match l with | d :: _ => K (.one d) | [] => none))
def xLoad (s : St) (t : TypeId) (a : A) (K : A → Option R) : Option R :=
  match T t with
  | none => none
  | some i => (match a with
    | .one (.ref id off) => (match s.h id with | some cs => xLoadCs i off cs K | none => none)
    | .one (.d (.pp ds)) => xLoadPP i ds K
    | _ => none)

def xStore (s : St) (t : TypeId) (a v : A) (K : A → St → Option R) : Option R :=
  match T t, a, v.cells with
  | some i, .one (.ref id off), some ys => (match s.h id with
    | some cs => xif (decide (ys.length = i.sz) && decide (off + ys.length ≤ cs.length)) (K (.tup []) (s.write id (rpl cs off ys)))
    | none => none)
  | _, _, _ => none

def xFieldAddr (t : TypeId) (a : A) (j : Nat) (K : A → Option R) : Option R :=
  match T t with
  | some i => (match i.kind with
    | .struct fs => (match fs[j]? with
      | some (off, ft, _) => (match T ft with
        | some fi => xif (decide (0 < fi.sz)) (match a with
          | .one (.ref id o) => K (.one (.ref id (o + off)))
          | .one (.d (.pp ds)) => K (.one (.d (.pp (ds.drop off))))
          | _ => none)
        | none => none)
      | none => none)
    | _ => none)
  | none => none

def xElem (sz : Nat) (es : List (List D)) (n : Int) : Option (List D) :=
  if 0 ≤ n then (match es[n.toNat]? with | some c => if c.length = sz then some c else none | none => none) else none
theorem xElem_some {sz : Nat} {es : List (List D)} {n : Int} {c : List D} (h : xElem sz es n = some c) : 0 ≤ n ∧ es[n.toNat]? = some c ∧ c.length = sz := by
  unfold xElem at h
  split at h
  · rename_i h0
    split at h
    · rename_i c' hc
      split at h
      · rename_i hl; simp only [Option.some.injEq] at h; subst h; exact ⟨h0, hc, hl⟩
      · cases h
    · cases h
  · cases h

def xIndexAddr (t : TypeId) (a ix : A) (K : A → Option R) : Option R :=
  (xIx ix).bind fun n => match T t with
  | some i => (match i.kind with
    | .slice e => (match T e with
      | some ei => (match a with
        | .one (.msl id off len _ sz') => xif ((sz' == ei.sz) && (decide (0 ≤ n) && decide (n < len))) (K (.one (.ref id (off + n.toNat * ei.sz))))
        | a => (slElems a).bind fun es => (xElem ei.sz es n).bind fun c => K (.one (.d (.pp c))))
      | none => none)
    | .arr m e => (match T e with
      | some ei => (match a with
        | .one (.ref id o) => xif (decide (0 ≤ n) && decide (n < m)) (K (.one (.ref id (o + n.toNat * ei.sz))))
        | .one (.d (.pp ds)) => xif (decide (0 ≤ n) && decide (n < m)) (K (.one (.d (.pp (ds.drop (n.toNat * ei.sz))))))
        | _ => none)
      | none => none)
    | _ => none)
  | none => none

/-- A part of an aggregate. -/
def xPart (i : TI) (cs : List C) (off : Nat) (K : A → Option R) : Option R := xLoadCs i off cs K

def xField (t : TypeId) (a : A) (j : Nat) (K : A → Option R) : Option R :=
  match T t, a with
  | some i, .agg cs => (match i.kind with
    | .struct fs => (match fs[j]? with
      | some (off, ft, _) => (match T ft with | some fi => xPart fi cs off K | none => none)
      | none => none)
    | _ => none)
  | _, _ => none

def xIdxS (l : List UInt8) (n : Int) : Option UInt8 := if 0 ≤ n then l[n.toNat]? else none

def xIndex (t : TypeId) (a ix : A) (K : A → Option R) : Option R :=
  (xIx ix).bind fun n => match T t with
  | some i => (match i.kind with
    | .str => (xS a).bind fun l => (xIdxS l n).bind fun b => K (.one (.d (.v (.int .u8 b.toNat))))
    | .arr m e => (match T e, a with
      | some ei, .agg cs => xif (decide (0 ≤ n) && decide (n < m)) (xPart ei cs (n.toNat * ei.sz) K)
      | _, _ => none)
    | _ => none)
  | none => none

def xExtract (a : A) (j : Nat) (K : A → Option R) : Option R := (xtup a j).bind fun r => K r

def xBin (op : BinOp) (t t2 : TypeId) (a b : A) (K : A → Option R) : Option R :=
  match T t with
  | none => none
  | some i => (match i.kind with
    | .int k => (match isShift op with
      | true => (match T t2 with
        | some i2 => (match i2.kind with
          | .int k2 => (xI k a).bind fun x => (xI k2 b).bind fun y => xishift op k x y fun v => K (.one (.d (.v v)))
          | _ => none)
        | none => none)
      | false => (xI k a).bind fun x => (xI k b).bind fun y => xibin op k x y fun v => K (.one (.d (.v v))))
    | .bool => (xB a).bind fun x => (xB b).bind fun y => (match op with
      | .eql => K (.one (.d (.v (.bool (x == y)))))
      | .neq => K (.one (.d (.v (.bool (!(x == y))))))
      | _ => none)
    | .str => (xS a).bind fun x => (xS b).bind fun y => xsbin op x y fun d => K (.one (.d d))
    | _ => none)

def xUn (op : UnOp) (t : TypeId) (a : A) (K : A → Option R) : Option R :=
  match op with
  | .not => (xB a).bind fun b => K (.one (.d (.v (.bool !b))))
  | .neg => (match T t with
    | some i => (match i.kind with | .int k => (xI k a).bind fun n => K (.one (.d (.v (.int k (k.wrap (0 - n)))))) | _ => none)
    | none => none)
  | .xor => (match T t with
    | some i => (match i.kind with | .int k => (xI k a).bind fun n => K (.one (.d (.v (.int k (k.wrap (BitVec.ofInt k.bits (if k.signed then -1 else k.max) ^^^ BitVec.ofInt k.bits n).toNat))))) | _ => none)
    | none => none)
  | _ => none

def xConvert (src dst : TypeId) (a : A) (K : A → Option R) : Option R :=
  match T src, T dst with
  | some i, some j => (match i.kind, j.kind with
    | .int k0, .int k => (xI k0 a).bind fun n => K (.one (.d (.v (.int k (k.wrap n)))))
    | .str, .str => (xS a).bind fun l => K (.one (.d (.s l)))
    | _, _ => none)
  | _, _ => none

def xBuild (s : St) (t : TypeId) (parts : List (Nat × Operand)) (K : A → Option R) : Option R :=
  match T t with
  | some i => (match i.kind with
    | .struct fs => (match aFill ((fs.map fun f => (f.1, f.2.2))[·]?) i.zero (parts.map fun p => (p.1, aeval s p.2)) with | some cs => K (.agg cs) | none => none)
    | .arr _ e => (match T e with
      | some ei => (match aFill (fun j => some (j * ei.sz, ei.sz)) i.zero (parts.map fun p => (p.1, aeval s p.2)) with | some cs => K (.agg cs) | none => none)
      | none => none)
    | _ => none)
  | none => none

def xlows : List C → Option (List D)
  | [] => some []
  | c :: cs => (low c).bind fun d => (xlows cs).bind fun ds => some (d :: ds)
theorem xlows_eq : ∀ cs : List C, xlows cs = cs.mapM low
  | [] => by simp [xlows]
  | c :: cs => by simp [xlows, xlows_eq cs]

def xParts (s : St) : List (Nat × Operand) → Option (List (List D))
  | [] => some []
  | p :: ps => match (aeval s p.2).cells with
    | some cs => (xlows cs).bind fun e => (xParts s ps).bind fun es => some (e :: es)
    | none => none
theorem xParts_some (s : St) : ∀ {ps : List (Nat × Operand)} {es : List (List D)}, xParts s ps = some es → (ps.mapM fun p => lowCells (aeval s p.2)) = some es
  | [], es, h => by simpa [xParts] using h
  | p :: ps, es, h => by
    unfold xParts at h
    split at h
    · rename_i cs hcs
      simp only [Option.bind_eq_some_iff, Option.some.injEq] at h
      obtain ⟨e, h1, es', h2, rfl⟩ := h
      rw [xlows_eq] at h1
      simp only [List.mapM_cons, xParts_some s h2]
      simp [lowCells, hcs, h1]
    · cases h

def xBuildSlice (s : St) (t : TypeId) (len : Nat) (parts : List (Nat × Operand)) (K : A → Option R) : Option R :=
  match T t with
  | some i => (match i.kind with
    | .slice e => (match T e with
      | some ei => xif (ei.zero.length == ei.sz && decide (len * ei.sz ≤ 16777216) && (parts.map (·.1) == List.range len))
          ((xParts s parts).bind fun es => xif (es.all fun c => decide (c.length = ei.sz)) (K (.one (.full es))))
      | none => none)
    | _ => none)
  | none => none

def xobd (s : St) (dflt : Int) : Option Operand → Option Int
  | none => some dflt
  | some o => xIx (aeval s o)

def xSubS (l : List UInt8) (a b : Int) : Option (List UInt8) := if 0 ≤ a ∧ a ≤ b ∧ b ≤ l.length then some ((l.take b.toNat).drop a.toNat) else none
def xSubL (sz : Nat) (l : List (List D)) (a b : Int) : Option (List (List D)) := if (∀ y ∈ l, y.length = sz) ∧ 0 ≤ a ∧ a ≤ b ∧ b ≤ l.length then some ((l.take b.toNat).drop a.toNat) else none
def xSlice (s : St) (t : TypeId) (x : A) (lo hi mx : Option Operand) (K : A → Option R) : Option R :=
  match T t with
  | some i => (match i.kind with
    | .str => (match mx with
      | none => (xS x).bind fun l => (xobd s 0 lo).bind fun a => (xobd s l.length hi).bind fun b => (xSubS l a b).bind fun l' => K (.one (.d (.s l')))
      | some _ => none)
    | .slice e => (match T e with
      | some ei => (match mx with
        | none => (slElems x).bind fun l => (xobd s 0 lo).bind fun a => (xobd s l.length hi).bind fun b => (xSubL ei.sz l a b).bind fun l' => K (.one (.d (.sl l')))
        | some m => (slElems x).bind fun l => (xobd s 0 lo).bind fun a => (xobd s l.length hi).bind fun b => (xobd s 0 (some m)).bind fun c => xif (hi.isSome && decide (c = b)) ((xSubL ei.sz l a b).bind fun l' => K (.one (.full l'))))
      | none => none)
    | _ => none)
  | none => none

def xLen (t : TypeId) (x : A) (K : A → Option R) : Option R :=
  match T t with
  | some i => (match i.kind with
    | .arr n _ => K (.one (.d (.v (.int .i64 n))))
    | .str => (xS x).bind fun l => K (.one (.d (.v (.int .i64 l.length))))
    | .slice _ => (match x with
      | .one (.msl _ _ len _ _) => K (.one (.d (.v (.int .i64 len))))
      | x => (slElems x).bind fun es => K (.one (.d (.v (.int .i64 es.length)))))
    | _ => none)
  | none => none

/-- What is appended. -/
def xApp (sz by_ : Nat) (len : Nat) (es xs : List (List D)) : Option (List (List D)) :=
  if len = es.length ∧ (∀ c ∈ xs, c.length = sz) ∧ (∀ c ∈ es, c.length = sz) ∧ (es.length + xs.length) * by_ ≤ 140737488355328 then some (es ++ xs) else none
theorem xApp_some {sz by_ len : Nat} {es xs es' : List (List D)} (h : xApp sz by_ len es xs = some es') : len = es.length ∧ (∀ c ∈ xs, c.length = sz) ∧ (∀ c ∈ es, c.length = sz) ∧ (es.length + xs.length) * by_ ≤ 140737488355328 ∧ es' = es ++ xs := by
  unfold xApp at h
  split at h
  · rename_i h0; simp only [Option.some.injEq] at h; exact ⟨h0.1, h0.2.1, h0.2.2.1, h0.2.2.2, h.symm⟩
  · cases h

def xAppend (s : St) (t : TypeId) (x y : A) (K : A → St → Option R) : Option R :=
  match T t with
  | some i => (match i.kind with
    | .slice e => (match T e with
      | some ei => xif (ei.zero.length == ei.sz && decide (0 < ei.sz) && decide (0 < ei.by_)) ((slElems y).bind fun xs => match x with
        | .one (.full es) => (xApp ei.sz ei.by_ es.length es xs).bind fun es' => K (.one (.app es' s.n)) ((s.tok e es.length).grow s.n e es'.length)
        | .one (.app es k) => (match s.tip k with
          | some (e', len) => xif (e' == e) ((xApp ei.sz ei.by_ len es xs).bind fun es' => K (.one (.app es' k)) (s.grow k e es'.length))
          | none => none)
        | _ => none)
      | none => none)
    | _ => none)
  | none => none

def xMin (mn : Bool) (t : TypeId) (x y : A) (K : A → Option R) : Option R :=
  match T t with
  | some i => (match i.kind with
    | .int k => (xI k x).bind fun a => (xI k y).bind fun b => K (.one (.d (.v (.int k (match mn with | true => if b < a then b else a | false => if b > a then b else a)))))
    | _ => none)
  | none => none

def xMake (s : St) (t : TypeId) (l c : A) (K : A → St → Option R) : Option R :=
  (xIx l).bind fun a => (xIx c).bind fun b => match T t with
  | some i => (match i.kind with
    | .slice e => (match T e with
      | some ei => xif (ei.zero.length == ei.sz && decide (0 < ei.sz)) (xif (decide (a = b) && (decide (0 ≤ a) && (decide (a ≤ 9223372036854775807) && decide (ei.by_ * a ≤ 281474976710656))))
          (K (.one (.msl s.n 0 a.toNat a.toNat ei.sz)) (s.new (List.replicate a.toNat ei.zero).flatten)))
      | none => none)
    | _ => none)
  | none => none

def xMakeFunc (s : St) (fn : Fn) (first captured : List Operand) (K : A → Option R) : Option R :=
  match fn, first, refIds s captured with
  | .func f, [], some [] => K (.one (.d (.clo f [])))
  | .func f, [], some ids => K (.one (.clo f ids))
  | _, _, _ => none

def xlowAs : List A → Option (List A)
  | [] => some []
  | a :: as => (match a with
    | .one c => (low c).bind fun d => (xlowAs as).bind fun l => some (.one (.d d) :: l)
    | .agg cs => (xlows cs).bind fun ds => (xlowAs as).bind fun l => some (.agg (ds.map C.d) :: l)
    | _ => none)
theorem xlowAs_some : ∀ {as r : List A}, xlowAs as = some r → as.mapM alow = some r
  | [], r, h => by simpa [xlowAs] using h
  | .one c :: as, r, h => by
    simp only [xlowAs, Option.bind_eq_some_iff, Option.some.injEq] at h
    obtain ⟨d, h1, l, h2, rfl⟩ := h
    simp [List.mapM_cons, alow, h1, xlowAs_some h2]
  | .agg cs :: as, r, h => by
    simp only [xlowAs, Option.bind_eq_some_iff, Option.some.injEq] at h
    obtain ⟨d, h1, l, h2, rfl⟩ := h
    rw [xlows_eq] at h1
    simp [List.mapM_cons, alow, h1, xlowAs_some h2]
  | .tup _ :: as, r, h => by simp [xlowAs] at h
  | .any :: as, r, h => by simp [xlowAs] at h

/-- What a call of a function gives. -/
abbrev Phi := FuncId → List A → Option A

def xRange (s : St) (t : TypeId) (y : A) (K : A → St → Option R) : Option R :=
  match T t with
  | some i => (match i.kind with
    | .str => (xS y).bind fun l => K (.one (.ref s.n 0)) (s.newO (.it l 0))
    | _ => none)
  | none => none
def xNext (s : St) (y : A) (b : Bool) (K : A → St → Option R) : Option R :=
  match y with
  | .one (.ref id 0) => (match s.o id with
    | some (.it l p) => xif b (xite (decide (p < l.length)) (K (.tup [.one (.d (.v (.bool true))), .one (.d (.v (.int .i64 p))), .one (.d (.v (.int .i32 (runeAt l p).1)))]) (s.setO id (.it l (p + (runeAt l p).2)))) (K (.tup [.one (.d (.v (.bool false)))]) s))
    | _ => none)
  | _ => none

def xMakeMap (s : St) (r : Option Operand) (K : A → St → Option R) : Option R := match r with | none => K (.one (.mp s.n)) (s.newO (.mp [])) | some _ => none
def xmt (t : TypeId) (k : Option R) : Option R := match T t with | some i => (match i.kind with | .map => k | _ => none) | none => none
def xLookup (s : St) (t : TypeId) (y ix : A) (ok : Bool) (K : A → Option R) : Option R :=
  match y, ix with
  | .one (.mp id), .agg [c1, c2] => (match s.o id with
    | some (.mp es) => xmt T t ((xI .i64 (.one c1)).bind fun a => (xI .i64 (.one c2)).bind fun b => K (mlookA ok (mfind (a, b) es)))
    | _ => none)
  | _, _ => none
def xMapUpdate (s : St) (t : TypeId) (y ix v : A) (K : A → St → Option R) : Option R :=
  match y, ix with
  | .one (.mp id), .agg [c1, c2] => (match s.o id with
    | some (.mp es) => xmt T t ((xI .i64 (.one c1)).bind fun a => (xI .i64 (.one c2)).bind fun b => (xS v).bind fun l => xif (mfind (a, b) es).isNone (K (.tup []) (s.setO id (.mp (es ++ [((a, b), l)])))))
    | _ => none)
  | _, _ => none

def xop (Φ : Phi) (s : St) (o : Op) (ty : TypeId) (K : A → St → Option R) : Option R :=
  match o with
  | .move x => K (aeval s x) s
  | .assign x => K (aeval s x) s
  | .pick c p q => (xB (aeval s c)).bind fun b => xite b (K (aeval s p) s) (K (aeval s q) s)
  | .alloc e => (match T e with | some i => K (.one (.ref s.n 0)) (s.new i.zero) | none => none)
  | .box _ y => (match (aeval s y).cells with | some cs => K (.one (.ref s.n 0)) (s.new cs) | none => none)
  | .build t parts => xBuild T s t parts.toList (K · s)
  | .buildSlice t len parts => xBuildSlice T s t len parts.toList (K · s)
  | .load t y => xLoad T s t (aeval s y) (K · s)
  | .store t y z => xStore T s t (aeval s y) (aeval s z) K
  | .binOp op t y z t2 => xBin T op t t2 (aeval s y) (aeval s z) (K · s)
  | .unOp op t y => xUn T op t (aeval s y) (K · s)
  | .convert t1 t2 y => xConvert T t1 t2 (aeval s y) (K · s)
  | .makeFunc fn first captured => xMakeFunc s fn first.toList captured.toList (K · s)
  | .makeSlice t l c => xMake T s t (aeval s l) (aeval s c) K
  | .slice t y lo hi mx => xSlice T s t (aeval s y) lo hi mx (K · s)
  | .fieldAddr t y i => xFieldAddr T t (aeval s y) i (K · s)
  | .field t y i => xField T t (aeval s y) i (K · s)
  | .indexAddr t y ix => xIndexAddr T t (aeval s y) (aeval s ix) (K · s)
  | .index t y ix => xIndex T t (aeval s y) (aeval s ix) (K · s)
  | .range t y => xRange T s t (aeval s y) K
  | .next y b => xNext s (aeval s y) b K
  | .makeMap _ r => xMakeMap s r K
  | .lookup t y ix ok => xLookup T s t (aeval s y) (aeval s ix) ok (K · s)
  | .mapUpdate t y ix v => xMapUpdate T s t (aeval s y) (aeval s ix) (aeval s v) K
  | .extract y i => xExtract (aeval s y) i fun r => xAn (T ty) r (K · s)
  | .call c => (match c.callee with
    | .value f => (match aCallee s f with
      | some (g, caps) => (xlowAs (c.args.toList.map (aeval s) ++ caps)).bind fun args => (Φ g args).bind fun r => xAn (T ty) r (K · s)
      | none => none)
    | .builtin b => (match b, c.args.toList, c.argTypes.toList with
      | .len, [y], [t] => xLen T t (aeval s y) (K · s)
      | .append, [y, z], [t, t'] => xif (t' == t) (xAppend T s t (aeval s y) (aeval s z) K)
      | .min, [y, z], _ => xMin T true ty (aeval s y) (aeval s z) (K · s)
      | .max, [y, z], _ => xMin T false ty (aeval s y) (aeval s z) (K · s)
      | _, _, _ => none)
    | _ => none)
  | _ => none
end
end Go.Av
