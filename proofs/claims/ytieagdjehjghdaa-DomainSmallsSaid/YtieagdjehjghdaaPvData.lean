/-
  Plain data: values of the program, as Lean trees; what the words of a run give on them. No program in sight.
-/
import Derived.Test.YtieagdjehjghdaaAvX7
set_option linter.all false
namespace Go.Av

inductive GV where
  | mk (ty num : Int) (text : List UInt8) (items : List GV)

def GV.cells : GV → List D
  | .mk ty num text items => [.v (.int .i64 ty), .v (.int .i64 num), .s text, .sl (items.map GV.cells)]
def GV.items : GV → List GV | .mk _ _ _ l => l
def GV.ty : GV → Int | .mk t _ _ _ => t
def GV.num : GV → Int | .mk _ n _ _ => n
def GV.text : GV → List UInt8 | .mk _ _ s _ => s

abbrev aI (n : Int) : A := .one (.d (.v (.int .i64 n)))
abbrev aB (b : Bool) : A := .one (.d (.v (.bool b)))
abbrev aS (l : List UInt8) : A := .one (.d (.s l))
abbrev aL (l : List GV) : A := .one (.d (.sl (l.map GV.cells)))
abbrev aG (ty num : Int) (text : List UInt8) (items : List (List D)) : A := .agg [.d (.v (.int .i64 ty)), .d (.v (.int .i64 num)), .d (.s text), .d (.sl items)]
abbrev GV.toA (g : GV) : A := aG g.ty g.num g.text (g.items.map GV.cells)

theorem GV.cells_eq (g : GV) : g.cells = [.v (.int .i64 g.ty), .v (.int .i64 g.num), .s g.text, .sl (g.items.map GV.cells)] := by
  cases g; simp [GV.cells, GV.ty, GV.num, GV.text, GV.items]
@[simp] theorem GV.length_cells (g : GV) : g.cells.length = 4 := by rw [GV.cells_eq]; rfl
@[simp] theorem GV.cells0 (g : GV) (d : D) : g.cells.getD 0 d = .v (.int .i64 g.ty) := by rw [GV.cells_eq]; rfl
@[simp] theorem GV.cells1 (g : GV) (d : D) : g.cells.getD 1 d = .v (.int .i64 g.num) := by rw [GV.cells_eq]; rfl
@[simp] theorem GV.cells2 (g : GV) (d : D) : g.cells.getD 2 d = .s g.text := by rw [GV.cells_eq]; rfl
@[simp] theorem GV.cells3 (g : GV) (d : D) : g.cells.getD 3 d = .sl (g.items.map GV.cells) := by rw [GV.cells_eq]; rfl
@[simp] theorem GV.mk_ty (a b : Int) (c : List UInt8) (d : List GV) : (GV.mk a b c d).ty = a := rfl
@[simp] theorem GV.mk_num (a b : Int) (c : List UInt8) (d : List GV) : (GV.mk a b c d).num = b := rfl
@[simp] theorem GV.mk_text (a b : Int) (c : List UInt8) (d : List GV) : (GV.mk a b c d).text = c := rfl
@[simp] theorem GV.mk_items (a b : Int) (c : List UInt8) (d : List GV) : (GV.mk a b c d).items = d := rfl

/-- What the words of a run give. -/
@[simp] theorem xDI_v (k : IntKind) (n : Int) : xDI k (.v (.int k n)) = some n := by simp [xDI]
@[simp] theorem xDB_v (b : Bool) : xDB (.v (.bool b)) = some b := rfl
@[simp] theorem xDS_s (b : List UInt8) : xDS (.s b) = some b := rfl
@[simp] theorem xDL_sl (b : List (List D)) : xDL (.sl b) = some b := rfl
@[simp] theorem xAD_d (d : D) : xAD (.one (.d d)) = some d := rfl
@[simp] theorem xI_i (k : IntKind) (n : Int) : xI k (.one (.d (.v (.int k n)))) = some n := by simp [xI]
@[simp] theorem xB_b (b : Bool) : xB (.one (.d (.v (.bool b)))) = some b := rfl
@[simp] theorem unD_nil : unD [] = some [] := rfl
@[simp] theorem unD_cons (d : D) (cs : List C) : unD (.d d :: cs) = (unD cs).bind fun ds => some (d :: ds) := rfl
@[simp] theorem unD_map (l : List D) : unD (l.map C.d) = some l := by
  induction l with
  | nil => rfl
  | cons d l ih => simp [ih]
@[simp] theorem xADs_agg (cs : List C) : xADs (.agg cs) = unD cs := rfl
@[simp] theorem xtup_tup (l : List A) (i : Nat) : xtup (.tup l) i = l[i]? := rfl
@[simp] theorem xite_decide {R : Type} (p : Prop) [Decidable p] (x y : Option R) : xite (decide p) x y = if p then x else y := by
  by_cases h : p <;> simp [xite, h]
@[simp] theorem xite_not {R : Type} (b : Bool) (x y : Option R) : xite (!b) x y = xite b y x := by cases b <;> rfl
@[simp] theorem xite_true {R : Type} (x y : Option R) : xite true x y = x := rfl
@[simp] theorem xite_false {R : Type} (x y : Option R) : xite false x y = y := rfl
@[simp] theorem xif_decide {R : Type} (p : Prop) [Decidable p] (x : Option R) : xif (decide p) x = if p then x else none := by
  by_cases h : p <;> simp [xif, h]

theorem wrap_i (n : Int) (h1 : -9223372036854775808 ≤ n) (h2 : n ≤ 9223372036854775807) : IntKind.i64.wrap n = n := by rw [IntKind.wrap_i64]; omega

theorem xElem_map {α : Type} (sz : Nat) (f : α → List D) (l : List α) (k : Nat) (hk : k < l.length) (hf : ∀ a, (f a).length = sz) : xElem sz (l.map f) (k : Int) = some (f l[k]) := by
  unfold xElem
  rw [if_pos (by omega), Int.toNat_natCast]
  simp [hk, hf]
theorem xIdxS_get (l : List UInt8) (k : Nat) (hk : k < l.length) : xIdxS l (k : Int) = some l[k] := by
  unfold xIdxS
  rw [if_pos (by omega), Int.toNat_natCast]
  simp [hk]

theorem drop_some {α : Type} (l : List α) (k : Nat) (h : k < l.length) : l.drop k = l[k] :: l.drop (k + 1) := List.drop_eq_getElem_cons h
theorem nat_succ {n k : Nat} (h : k + 1 ≤ n) : ∃ m, n = m + 1 := ⟨n - 1, by omega⟩

end Go.Av
namespace Go.Av
/-- A loop whose states are numbered. -/
theorem iter_nat {X R : Type} {F : X → (X → Option R) → Option R} (N : Nat) (st : Nat → X) (g : Nat → R)
    (h : ∀ k rec, k ≤ N → (k + 1 ≤ N → rec (st (k + 1)) = some (g (k + 1))) → F (st k) rec = some (g k)) : ∀ (n k : Nat), k ≤ N → N - k < n → iter F n (st k) = some (g k)
  | 0, k, _, hn => absurd hn (Nat.not_lt_zero _)
  | n + 1, k, hk, hn => h k _ hk fun hk1 => iter_nat N st g h n (k + 1) hk1 (by omega)

def okByte (b : UInt8) : Bool := decide (32 ≤ b.toNat ∧ b.toNat ≤ 126)
def rangedF (n lo hi : Int) : Int := if n < lo ∨ hi < n then 1 else 0
def sizedF (s : List UInt8) (lo hi : Int) : Int :=
  if (s.length : Int) < lo ∨ hi < (s.length : Int) then 2 else if s.all okByte then 0 else 1
def unusedF (ty num : Int) (text : List UInt8) (n : Nat) : Bool :=
  if ty = 1 ∨ ty = 2 ∨ ty = 4 then decide (text = []) && decide (n = 0)
  else if ty = 3 ∨ ty = 8 then decide (num = 0) && decide (n = 0)
  else decide (num = 0) && decide (text = [])

mutual
def GV.chk : GV → Int
  | .mk ty num text items =>
    if ty < 1 ∨ 8 < ty then 3
    else if unusedF ty num text items.length = false then 4
    else if ty = 1 then rangedF num 0 1
    else if ty = 2 then rangedF num (-1000000) 1000000
    else if ty = 4 then rangedF num 0 255
    else if ty = 8 then sizedF text 1 40
    else if ty = 3 then sizedF text 0 64
    else if ty = 5 then (if (16 : Int) < items.length then 2 else GV.chkL 2 items)
    else if ty = 6 then (if (16 : Int) < items.length then 2 else GV.chkL 3 items)
    else if (8 : Int) < items.length then 2 else GV.chkR ((items.head?.map fun g => g.items.length).getD 0) items
def GV.chkL : Int → List GV → Int
  | _, [] => 0
  | t, x :: xs => if x.ty ≠ t then 3 else if GV.chk x ≠ 0 then GV.chk x else GV.chkL t xs
def GV.chkR : Nat → List GV → Int
  | _, [] => 0
  | w, x :: xs => if x.ty ≠ 6 then 3 else if x.items.length < 1 ∨ 8 < x.items.length ∨ x.items.length ≠ w then 2
     else if GV.chk x ≠ 0 then GV.chk x else GV.chkR w xs
end

mutual
def GV.cmp : GV → GV → Int
  | .mk ty num text items, .mk ty' num' text' items' =>
    if ty ≠ ty' then (if ty < ty' then -1 else 1)
    else if num ≠ num' then (if num < num' then -1 else 1)
    else if text ≠ text' then (if Op.bytesLess text text' then -1 else 1)
    else GV.cmpL items items'
def GV.cmpL : List GV → List GV → Int
  | [], [] => 0
  | [], _ :: _ => -1
  | _ :: _, [] => 1
  | x :: xs, y :: ys => if GV.cmp x y ≠ 0 then GV.cmp x y else GV.cmpL xs ys
end


mutual
def GV.wt : GV → Nat
  | .mk _ _ text items => 2 + text.length + GV.wtL items
def GV.wtL : List GV → Nat
  | [] => 0
  | x :: xs => 1 + GV.wt x + GV.wtL xs
end
theorem GV.wtL_len : ∀ l : List GV, l.length ≤ GV.wtL l
  | [] => by simp [GV.wtL]
  | x :: xs => by have := GV.wtL_len xs; simp [GV.wtL]; omega
theorem GV.wtL_get : ∀ (l : List GV) (k : Nat) (h : k < l.length), (l[k]).wt + l.length ≤ GV.wtL l + k + 1 ∧ l[k].wt < GV.wtL l
  | x :: xs, 0, _ => by have := GV.wtL_len xs; simp [GV.wtL]; omega
  | x :: xs, k + 1, h => by
    have := GV.wtL_get xs k (by simpa using h)
    simp [GV.wtL]; omega
theorem GV.wt_eq (g : GV) : g.wt = 2 + g.text.length + GV.wtL g.items := by cases g; simp [GV.wt]

/-- Lengths and numbers within what the machine holds. -/
inductive GV.Ok : GV → Prop where
  | mk (ty num : Int) (text : List UInt8) (items : List GV) (h1 : text.length ≤ 9223372036854775807) (h2 : items.length ≤ 9223372036854775807)
      (h3 : -9223372036854775808 ≤ ty ∧ ty ≤ 9223372036854775807) (h4 : -9223372036854775808 ≤ num ∧ num ≤ 9223372036854775807)
      (h : ∀ x ∈ items, GV.Ok x) : GV.Ok (.mk ty num text items)
theorem GV.Ok.len {g : GV} (h : g.Ok) : g.text.length ≤ 9223372036854775807 ∧ g.items.length ≤ 9223372036854775807 := by cases h; exact ⟨by assumption, by assumption⟩
theorem GV.Ok.get {g : GV} (h : g.Ok) : ∀ x ∈ g.items, x.Ok := by cases h; assumption
theorem GV.ind {p : GV → Prop} (h : ∀ g : GV, (∀ x ∈ g.items, p x) → p g) (g : GV) : p g := by
  have key : ∀ n (g : GV), g.wt ≤ n → p g := by
    intro n
    induction n with
    | zero => intro g hg; rw [GV.wt_eq] at hg; omega
    | succ n ih =>
      intro g hg
      refine h g fun x hx => ih x ?_
      obtain ⟨k, hk, rfl⟩ := List.mem_iff_getElem.1 hx
      have := (GV.wtL_get g.items k hk).2
      rw [GV.wt_eq] at hg
      omega
  exact key _ g (Nat.le_refl _)
end Go.Av
namespace Go.Av
@[simp] theorem GV.drop3 (g : GV) : g.cells.drop 3 = [.sl (g.items.map GV.cells)] := by rw [GV.cells_eq]; rfl
@[simp] theorem GV.drop2 (g : GV) : g.cells.drop 2 = [.s g.text, .sl (g.items.map GV.cells)] := by rw [GV.cells_eq]; rfl
@[simp] theorem GV.drop1 (g : GV) : g.cells.drop 1 = [.v (.int .i64 g.num), .s g.text, .sl (g.items.map GV.cells)] := by rw [GV.cells_eq]; rfl
end Go.Av
namespace Go.Av
@[simp] theorem GV.get0 (g : GV) (h : 0 < g.cells.length) : g.cells[0]'h = .v (.int .i64 g.ty) := by cases g; simp [GV.cells]
@[simp] theorem GV.get1 (g : GV) (h : 1 < g.cells.length) : g.cells[1]'h = .v (.int .i64 g.num) := by cases g; simp [GV.cells]
@[simp] theorem GV.get2 (g : GV) (h : 2 < g.cells.length) : g.cells[2]'h = .s g.text := by cases g; simp [GV.cells]
@[simp] theorem GV.get3 (g : GV) (h : 3 < g.cells.length) : g.cells[3]'h = .sl (g.items.map GV.cells) := by cases g; simp [GV.cells]
@[simp] theorem GV.geto0 (g : GV) : g.cells[0]? = some (.v (.int .i64 g.ty)) := by cases g; simp [GV.cells]
@[simp] theorem GV.geto1 (g : GV) : g.cells[1]? = some (.v (.int .i64 g.num)) := by cases g; simp [GV.cells]
@[simp] theorem GV.geto2 (g : GV) : g.cells[2]? = some (.s g.text) := by cases g; simp [GV.cells]
@[simp] theorem GV.geto3 (g : GV) : g.cells[3]? = some (.sl (g.items.map GV.cells)) := by cases g; simp [GV.cells]
theorem xElem0 {α : Type} (sz : Nat) (f : α → List D) (l : List α) (hk : 0 < l.length) (hf : ∀ a, (f a).length = sz) : xElem sz (l.map f) 0 = some (f l[0]) := xElem_map sz f l 0 hk hf
end Go.Av
