/-
  Operations on blocks under counted names: addresses, loads, stores, parts, lengths, what is made, appended, copied, cleared. Over any program. No toy.
-/
import Derived.Test.YtnfbgleaodkjpaaHvHeap
set_option linter.all false
namespace Go.Av
open Go.RowKit

def hGet (H : Hp) (k : Nat) : Option HO := match H[k]? with | some (some o) => some o | _ => none
theorem hGet_some {H : Hp} {k : Nat} {o : HO} (h : hGet H k = some o) : H[k]? = some (some o) := by
  unfold hGet at h; split at h
  · simp only [Option.some.injEq] at h; subst h; assumption
  · cases h

def xOnes : List (List D) → Option (List D)
  | [] => some []
  | [d] :: es => (xOnes es).map (d :: ·)
  | _ :: _ => none
theorem xOnes_some : ∀ {es : List (List D)} {ds : List D}, xOnes es = some ds → es = ds.map fun d => [d]
  | [], ds, h => by simp [xOnes] at h; subst h; rfl
  | [d] :: es, ds, h => by
    simp only [xOnes, Option.map_eq_some_iff] at h
    obtain ⟨ds', h1, rfl⟩ := h
    rw [xOnes_some h1]; rfl
  | [] :: _, _, h => by simp [xOnes] at h
  | (_ :: _ :: _) :: _, _, h => by simp [xOnes] at h

def hLen : C → Option Nat
  | .hs _ _ len => some len
  | .d (.sl es) => some es.length
  | .full es => some es.length
  | _ => none
def hAt (es : List (List D)) (i : Int) : Option C := if 0 ≤ i then (match es[i.toNat]? with | some [d] => some (.d (.pp [d])) | _ => none) else none
def hAddr (c : C) (i : Int) : Option C := match c with
  | .hs k off len => if 0 ≤ i ∧ i < len then some (.hp k (off + i.toNat)) else none
  | .d (.sl es) => hAt es i
  | .full es => hAt es i
  | _ => none
def hLoad (H : Hp) (p : C) : Option C := match p with
  | .hp k off => (hGet H k).bind fun o => o.cs[off]?
  | .d (.pp (d :: _)) => some (.d d)
  | _ => none
def hStore (H : Hp) (p c : C) : Option Hp := match p with
  | .hp k off => (hGet H k).bind fun o => if off < o.cs.length ∧ c.hok = true then some (H.set k (some ⟨rpl o.cs off [c], o.ex⟩)) else none
  | _ => none
def hSub (c : C) (lo hi : Int) : Option C := match c with
  | .hs k off len => if 0 ≤ lo ∧ lo ≤ hi ∧ hi ≤ len then some (.hs k (off + lo.toNat) (hi - lo).toNat) else none
  | .d (.sl es) => if (∀ y ∈ es, y.length = 1) ∧ 0 ≤ lo ∧ lo ≤ hi ∧ hi ≤ es.length then some (.d (.sl ((es.take hi.toNat).drop lo.toNat))) else none
  | .full es => if (∀ y ∈ es, y.length = 1) ∧ 0 ≤ lo ∧ lo ≤ hi ∧ hi ≤ es.length then some (.d (.sl ((es.take hi.toNat).drop lo.toNat))) else none
  | _ => none
/-- A part that may reach beyond the length, as far as cells are known. -/
def hSubX (H : Hp) (c : C) (lo hi : Int) : Option C := match c with
  | .hs k off len => if 0 ≤ lo ∧ lo ≤ hi ∧ hi ≤ len then some (.hs k (off + lo.toNat) (hi - lo).toNat) else
      (hGet H k).bind fun o => if 0 ≤ lo ∧ lo ≤ hi ∧ off + hi.toNat ≤ o.cs.length then some (.hs k (off + lo.toNat) (hi - lo).toNat) else none
  | c => hSub c lo hi
theorem hSubX_of {H : Hp} {c r : C} {lo hi : Int} (h : hSub c lo hi = some r) : hSubX H c lo hi = some r := by
  cases c with
  | hs k off len =>
    simp only [hSub] at h
    split at h
    · rename_i hb; simp only [hSubX]; rw [if_pos hb]; exact h
    · cases h
  | _ => exact h
/-- The elements of a slice, as cells. -/
def hCells (H : Hp) (c : C) : Option (List C) := match c with
  | .hs k off len => (hGet H k).bind fun o => if off + len ≤ o.cs.length then some ((o.cs.drop off).take len) else none
  | .d (.sl es) => (xOnes es).map (·.map C.d)
  | .full es => (xOnes es).map (·.map C.d)
  | _ => none
def isSlC : C → Bool
  | .hs .. | .d (.sl _) | .full _ => true
  | _ => false
def hApp (H : Hp) (c : C) (ys : List C) : Option (C × Hp) :=
  match ys with
  | [] => if isSlC c then some (c, H) else none
  | y :: yt => match c with
    | .full es => (xOnes es).bind fun ds => some (.hs H.length 0 (es.length + (y :: yt).length), H ++ [some ⟨ds.map C.d ++ y :: yt, false⟩])
    | .hs k off len => (hGet H k).bind fun o =>
        if off + len ≤ o.cs.length then
          if off + len + (y :: yt).length ≤ o.cs.length then some (.hs k off (len + (y :: yt).length), H.set k (some ⟨rpl o.cs (off + len) (y :: yt), o.ex⟩))
          else if o.ex then some (.hs H.length 0 (len + (y :: yt).length), H ++ [some ⟨(o.cs.drop off).take len ++ y :: yt, false⟩])
          else if off = 0 then some (.hs H.length 0 (len + (y :: yt).length), H.set k none ++ [some ⟨o.cs.take len ++ y :: yt, false⟩])
          else none
        else none
    | _ => none
/-- As many zero cells, appended to a whole block's part that has no room. -/
def hAppZ (H : Hp) (c : C) (m : Nat) (zc : C) : Option (C × Hp) := match c with
  | .hs k off len => (hGet H k).bind fun o =>
      if o.ex = true ∧ off + len ≤ o.cs.length ∧ o.cs.length < off + len + m then some (.hs H.length 0 (len + m), H ++ [some ⟨(o.cs.drop off).take len ++ List.replicate m zc, false⟩]) else none
  | _ => none
def hCopy (H : Hp) (c : C) (ys : List C) : Option (Nat × Hp) := match c with
  | .hs k off len => (hGet H k).bind fun o =>
      if off + len ≤ o.cs.length then some (min ys.length len, H.set k (some ⟨rpl o.cs off (ys.take (min ys.length len)), o.ex⟩)) else none
  | _ => none
def hClear (H : Hp) (z : C) (c : C) : Option Hp := match c with
  | .hs k off len => (hGet H k).bind fun o =>
      if off + len ≤ o.cs.length then some (H.set k (some ⟨rpl o.cs off (List.replicate len z), o.ex⟩)) else none
  | _ => none
def hCap (H : Hp) (c : C) : Option Nat := match c with
  | .hs k off len => (hGet H k).bind fun o => if o.ex ∧ off + len ≤ o.cs.length then some (o.cs.length - off) else none
  | .full es => some es.length
  | _ => none

def zcell (P : Program) (e : TypeId) : Option C := match tzero P e with | some [z] => if z.hok then some z else none | _ => none
/-- A slice of one-cell elements. -/
def sl1 (P : Program) (t e : TypeId) : Prop := telem P t = some e ∧ tsz P e = some 1

def oneCs : List A → Option (List C)
  | [] => some []
  | .one c :: as => if c.hok then (oneCs as).map (c :: ·) else none
  | _ :: _ => none
def hpIds : List A → Option (List Nat)
  | [] => some []
  | .one (.hp k 0) :: as => (hpIds as).map (k :: ·)
  | _ :: _ => none

/-- What an operation does with blocks under counted names. -/
def aheap (P : Program) (s : St) (o : Op) (K : A → St → Prop) : Prop :=
  match o with
  | .indexAddr t y ix => ∃ e c kk i p, sl1 P t e ∧ aeval s y = .one c ∧ aeval s ix = .one (.d (.v (.int kk i))) ∧ hAddr c i = some p ∧ K (.one p) s
  | .load t y => ∃ p c, tagg P t = some false ∧ tsz P t = some 1 ∧ aeval s y = .one p ∧ hLoad s.H p = some c ∧ K (.one c) s
  | .store t y z => ∃ p c H, tsz P t = some 1 ∧ aeval s y = .one p ∧ aeval s z = .one c ∧ hStore s.H p c = some H ∧ K (.tup []) (s.hput H)
  | .slice t y lo hi mx => (match mx with
    | none => ∃ e c n a b r, sl1 P t e ∧ aeval s y = .one c ∧ hLen c = some n ∧ obd s 0 lo = some a ∧ obd s n hi = some b ∧ hSubX s.H c a b = some r ∧ K (.one r) s
    | some m => ∃ e c n a b q, sl1 P t e ∧ aeval s y = .one c ∧ hLen c = some n ∧ obd s 0 lo = some a ∧ hi.isSome = true ∧ obd s n hi = some b ∧ obd s 0 (some m) = some q ∧ 0 ≤ a ∧ a ≤ b ∧ b ≤ q ∧ q ≤ n ∧ K (.one .any) s)
  | .makeSlice t l c => ∃ e by_ z kl kc n, sl1 P t e ∧ tbytes P e = some by_ ∧ zcell P e = some z ∧ aeval s l = .one (.d (.v (.int kl n))) ∧ aeval s c = .one (.d (.v (.int kc n))) ∧ 0 ≤ n ∧ n ≤ 9223372036854775807 ∧ (by_ : Int) * n ≤ 281474976710656 ∧
      K (.one (.hs s.H.length 0 n.toNat)) (s.hpush ⟨List.replicate n.toNat z, true⟩)
  | .alloc e => ∃ z, tsz P e = some 1 ∧ zcell P e = some z ∧ K (.one (.hp s.H.length 0)) (s.hpush ⟨[z], true⟩)
  | .box _ y => ∃ c, aeval s y = .one c ∧ c.hok = true ∧ K (.one (.hp s.H.length 0)) (s.hpush ⟨[c], true⟩)
  | .buildSlice t len parts => ∃ e cs, sl1 P t e ∧ (zcell P e).isSome = true ∧ len ≤ 16777216 ∧ parts.toList.map (·.1) = List.range len ∧ oneCs (parts.toList.map fun p => aeval s p.2) = some cs ∧ K (.one (.hs s.H.length 0 len)) (s.hpush ⟨cs, true⟩)
  | .nilCheck y => ∃ k off, aeval s y = .one (.hp k off) ∧ K (.one (.hp k off)) s
  | .binOp op t y z _ => ∃ e c n, op = .eql ∧ telem P t = some e ∧ z = .const (.slice none 0 0) ∧ aeval s y = .one c ∧ hLen c = some n ∧ K (.one (.d (.v (.bool false)))) s ∧ (n = 0 → K (.one (.d (.v (.bool true)))) s)
  | .makeFunc fn first captured => ∃ f ks, fn = .func f ∧ first.toList = [] ∧ hpIds (captured.toList.map (aeval s)) = some ks ∧ K (.one (.hclo f ks)) s
  | .call c => (match c.callee with
    | .builtin b => (match b, c.args.toList, c.argTypes.toList with
      | .len, [y], [t] => ∃ e v n, sl1 P t e ∧ aeval s y = .one v ∧ hLen v = some n ∧ K (.one (.d (.v (.int .i64 n)))) s
      | .cap, [y], [t] => ∃ e v n, sl1 P t e ∧ aeval s y = .one v ∧ hCap s.H v = some n ∧ K (.one (.d (.v (.int .i64 n)))) s
      | .append, [y, z], [t, t'] => (t' = t ∧ ∃ e by_ zc v n u ys p, sl1 P t e ∧ tbytes P e = some by_ ∧ 0 < by_ ∧ zcell P e = some zc ∧ aeval s y = .one v ∧ hLen v = some n ∧ aeval s z = .one u ∧ hCells s.H u = some ys ∧ (n + ys.length) * by_ ≤ 140737488355328 ∧ hApp s.H v ys = some p ∧ K (.one p.1) (s.hput p.2)) ∨
          (∃ e by_ zc v n kn kq m p, sl1 P t e ∧ tbytes P e = some by_ ∧ 0 < by_ ∧ zcell P e = some zc ∧ tint P t' = some kn ∧ aeval s y = .one v ∧ hLen v = some n ∧ aeval s z = .one (.d (.v (.int kq m))) ∧ 0 ≤ m ∧ (n + m.toNat) * by_ ≤ 140737488355328 ∧ hAppZ s.H v m.toNat zc = some p ∧ K (.one p.1) (s.hput p.2))
      | .copy, [y, z], [t, t'] => t' = t ∧ ∃ e v u ys p, sl1 P t e ∧ aeval s y = .one v ∧ aeval s z = .one u ∧ hCells s.H u = some ys ∧ hCopy s.H v ys = some p ∧ K (.one (.d (.v (.int .i64 p.1)))) (s.hput p.2)
      | .clear, [y], [t] => ∃ e z v H, sl1 P t e ∧ zcell P e = some z ∧ aeval s y = .one v ∧ hClear s.H z v = some H ∧ K (.tup []) (s.hput H)
      | _, _, _ => False)
    | _ => False)
  | _ => False

section sound
variable {P : Program} {x : Ent} {s : St} {a : Act} {w : World} {K : A → St → Prop}

theorem hs_inv {W : WSet} {E : Env} {k off len : Nat} {v : Value} (h : RepA w W E (.one (.hs k off len)) v) :
    k < E.hn ∧ ∃ a cap, v = .slice a len cap ∧ (len = 0 ∧ cap = 0 ∧ off = E.gs k ∨ a = some ⟨E.γ k, off, none⟩ ∧ len ≤ cap ∧ off + cap = E.gs k) := one_inv h

theorem hAt_some {es : List (List D)} {i : Int} {p : C} (h : hAt es i = some p) : 0 ≤ i ∧ ∃ d, es[i.toNat]? = some [d] ∧ p = .d (.pp [d]) := by
  unfold hAt at h
  split at h
  · rename_i h0
    split at h
    · rename_i d hd; simp only [Option.some.injEq] at h; exact ⟨h0, d, hd, h.symm⟩
    · cases h
  · cases h

theorem ahIndexAddr_sound (h : RepSt P x s a w) {t : TypeId} {y ix : Operand} (hK : aheap P s (.indexAddr t y ix) K) : OpOK P x s a w (do pure (.value (← Instr.indexAt t (a.eval y) (a.eval ix)))) K := by
  obtain ⟨e, c, kk, i, p, ⟨he, hs⟩, hy, hi, hp, hK⟩ := hK
  have hD : ∀ es : List (List D), slElems (aeval s y) = some es → hAt es i = some p → OpOK P x s a w (do pure (.value (← Instr.indexAt t (a.eval y) (a.eval ix)))) K := fun es hes hat => by
    obtain ⟨h0, d, hd, rfl⟩ := hAt_some hat
    refine aIndexAddr_sound h ?_
    unfold aIndexAddr
    rw [hi]
    simp only [he, hs, hes, hd]
    exact ⟨h0, rfl, hK⟩
  cases c with
  | hs k off len =>
    simp only [hAddr] at hp
    split at hp
    · rename_i hlt
      simp only [Option.some.injEq] at hp
      subst hp
      have hu := telem_und he
      obtain ⟨h1, h2, E, h3, h4⟩ := h
      have hv := aeval_rep h4 y
      rw [hy] at hv
      have hiv := aeval_rep h4 ix
      rw [hi] at hiv
      rw [v_inv hiv]
      obtain ⟨hk, b, cap, hval, hc⟩ := hs_inv hv
      rcases hc with ⟨rfl, _, _⟩ | ⟨rfl, hcap, hsz⟩
      · omega
      · rw [hval]
        refine ⟨.pointer (some ⟨E.γ k, off + i.toNat, none⟩), w, _, s, .inl ?_, ⟨h1, h2, E, h3, h4, .one (.hp k (off + i.toNat)) _ ⟨hk, rfl⟩⟩, hK, rfl⟩
        have h6 := hlt.1
        have h7 := hlt.2
        simp [Instr.indexAt, asIntOf, run_underlying hu, h6, h7, run_sizeOf hs, add_none]
    · cases hp
  | d u =>
    cases u with
    | sl es => exact hD es (by rw [hy]; rfl) hp
    | _ => cases hp
  | full es => exact hD es (by rw [hy]; rfl) hp
  | _ => cases hp

theorem HOk.cell {E : Env} (h : HOk x s w E) {k : Nat} {o : HO} (hk : s.H[k]? = some (some o)) {i : Nat} {c : C} (hc : o.cs[i]? = some c) :
    c.hok = true ∧ ∃ v, w.cell? ⟨E.γ k, i, none⟩ = some v ∧ RepC w (Wn x s E) E c v := by
  obtain ⟨vs, t, b1, b2, b3, b4, b5⟩ := h.ob k o hk
  obtain ⟨g1, g2⟩ := b5 i c hc
  refine ⟨g1, vs.getD i undef, ?_, g2⟩
  rw [cell_of_row w _ _ vs t (0, 0) b1]
  have : i < vs.size := Nat.lt_of_lt_of_le (List.getElem?_eq_some_iff.1 hc).1 b3
  simp [this]

theorem ahLoad_sound (h : RepSt P x s a w) {t : TypeId} {y : Operand} (hK : aheap P s (.load t y) K) : OpOK P x s a w (do pure (.value (← Instr.loadAt t (a.eval y)))) K := by
  obtain ⟨p, c, ha, hs, hy, hl, hK⟩ := hK
  unfold hLoad at hl
  split at hl
  · rename_i k off
    simp only [Option.bind_eq_some_iff] at hl
    obtain ⟨o, ho, hc⟩ := hl
    have hk := hGet_some ho
    obtain ⟨h1, h2, E, h3, h4⟩ := h
    have hv := aeval_rep h4 y
    rw [hy] at hv
    obtain ⟨_, hval⟩ := one_inv hv
    obtain ⟨_, v, hcell, hrep⟩ := h3.hp.cell hk hc
    have hrun := run_loadVar_at hs ha w (E.γ k) off (fun _ => v) (fun j hj => by
      have : j = 0 := by simpa using hj
      subst this; exact hcell)
    refine ⟨v, w, _, s, .inl ?_, ⟨h1, h2, E, h3, h4, .one c v hrep⟩, hK, rfl⟩
    rw [hval]
    simp only [Bool.false_eq_true, if_false] at hrun
    simp [Instr.loadAt, Instr.sureAddr, hrun]
  · rename_i d ds
    simp only [Option.some.injEq] at hl
    subst hl
    refine aLoad_sound h ?_
    unfold aLoad
    simp only [ha, hs, hy]
    exact hK
  · cases hl

theorem us_one {W : WSet} {E : Env} {ys : List C} {us : List Value} (hul : us.length = ys.length) (hu : ∀ (i : Nat) (c : C), ys[i]? = some c → c.hok = true ∧ RepC w W E c (us.getD i undef)) : ∀ v ∈ us, v.oneCell' = true := by
  intro v hv
  obtain ⟨k, hk, rfl⟩ := List.getElem_of_mem hv
  have hk' : k < ys.length := by omega
  have := (hu k _ (List.getElem?_eq_getElem hk')).2.oneCell
  simpa [hk] using this

/-- Cells laid into a block of one's own from a place on. -/
theorem RepE.hwr' {E : Env} (h3 : RepE P x s w E) {k : Nat} {o : HO} (hk : s.H[k]? = some (some o)) (off : Nat) (ys : List C) (us : List Value) (hul : us.length = ys.length)
    (hu : ∀ (i : Nat) (c : C), ys[i]? = some c → c.hok = true ∧ RepC w (Wn x s E) E c (us.getD i undef)) (o' : HO) (hfit : off + ys.length ≤ E.gs k) (hlen : o'.cs.length ≤ E.gs k) (hex : o'.ex = true → o'.cs.length = E.gs k)
    (hcs : ∀ (i : Nat) (c : C), o'.cs[i]? = some c → ((i < off ∨ off + ys.length ≤ i) ∧ o.cs[i]? = some c) ∨ (off ≤ i ∧ ys[i - off]? = some c)) :
    ∃ old ty, w.heap[E.γ k]? = some (.cells old ty (0, 0)) ∧ off + us.length ≤ old.size ∧ (∀ v ∈ us, v.oneCell' = true) ∧
      RepE P x (s.hset k o') (w.setRow (E.γ k) (old.toList.take off ++ us ++ old.toList.drop (off + us.length)).toArray) E ∧
      Keeps w (Wn x s E) (w.setRow (E.γ k) (old.toList.take off ++ us ++ old.toList.drop (off + us.length)).toArray) (Wn x (s.hset k o') E) := by
  obtain ⟨vs, ty, b1, b2, b3, b4, b5⟩ := h3.hp.ob k o hk
  have hfit' : off + us.length ≤ vs.size := by omega
  have hsz : (vs.toList.take off ++ us ++ vs.toList.drop (off + us.length)).toArray.size = vs.size := by
    simp only [List.size_toArray, List.length_append, List.length_take, List.length_drop, Array.length_toList]; omega
  have hget : ∀ i, ((vs.toList.take off ++ us ++ vs.toList.drop (off + us.length)).toArray).getD i undef = if i < off then vs.getD i undef else if i < off + us.length then us.getD (i - off) undef else vs.getD i undef := fun i => by
    rw [Array.getD_eq_getD_getElem?, List.getElem?_toArray]
    have := getElem?_rpl vs.toList off us (by simpa using hfit') i
    unfold rpl at this
    rw [this]
    (repeat' split) <;> simp [Array.getD_eq_getD_getElem?, List.getD_eq_getElem?_getD]
  refine ⟨vs, ty, b1, hfit', us_one hul hu, ?_⟩
  refine h3.hupd hk o' _ (by rw [hsz, b2]) (by rw [hsz, b2]; exact hlen) (fun h => by rw [hsz, b2]; exact hex h) (fun i c hi => ?_)
  rw [hget]
  rcases hcs i c hi with ⟨h5, h6⟩ | ⟨h5, h6⟩
  · have : (if i < off then vs.getD i undef else if i < off + us.length then us.getD (i - off) undef else vs.getD i undef) = vs.getD i undef := by
      rcases h5 with h5 | h5
      · rw [if_pos h5]
      · rw [if_neg (by omega), if_neg (by omega)]
    rw [this]; exact b5 i c h6
  · have hlt : i - off < ys.length := (List.getElem?_eq_some_iff.1 h6).1
    rw [if_neg (by omega), if_pos (by omega)]
    exact hu _ c h6

theorem RepE.hwr {E : Env} (h3 : RepE P x s w E) {k : Nat} {o : HO} (hk : s.H[k]? = some (some o)) (off : Nat) (ys : List C) (us : List Value) (hul : us.length = ys.length)
    (hu : ∀ (i : Nat) (c : C), ys[i]? = some c → c.hok = true ∧ RepC w (Wn x s E) E c (us.getD i undef)) (hfit : off + ys.length ≤ o.cs.length) :
    ∃ old ty, w.heap[E.γ k]? = some (.cells old ty (0, 0)) ∧ off + us.length ≤ old.size ∧ (∀ v ∈ us, v.oneCell' = true) ∧
      RepE P x (s.hset k ⟨rpl o.cs off ys, o.ex⟩) (w.setRow (E.γ k) (old.toList.take off ++ us ++ old.toList.drop (off + us.length)).toArray) E ∧
      Keeps w (Wn x s E) (w.setRow (E.γ k) (old.toList.take off ++ us ++ old.toList.drop (off + us.length)).toArray) (Wn x (s.hset k ⟨rpl o.cs off ys, o.ex⟩) E) := by
  obtain ⟨vs, ty, b1, b2, b3, b4, b5⟩ := h3.hp.ob k o hk
  have hl := length_rpl o.cs off ys hfit
  refine h3.hwr' hk off ys us hul hu ⟨rpl o.cs off ys, o.ex⟩ (by omega) (by show (rpl o.cs off ys).length ≤ _; omega) (fun h => by show (rpl o.cs off ys).length = _; rw [hl, b4 h, b2]) (fun i c hi => ?_)
  have hi : (rpl o.cs off ys)[i]? = some c := hi
  rw [getElem?_rpl _ _ _ hfit] at hi
  split at hi
  · rename_i h5; exact .inl ⟨.inl h5, hi⟩
  · rename_i h5
    split at hi
    · exact .inr ⟨by omega, hi⟩
    · exact .inl ⟨.inr (by omega), hi⟩

theorem ahStore_sound (h : RepSt P x s a w) {t : TypeId} {y z : Operand} (hK : aheap P s (.store t y z) K) : OpOK P x s a w (do (Instr.storeAt t (a.eval y) (a.eval z)); pure .skip) K := by
  obtain ⟨p, c, H, hs, hy, hz, hst, hK⟩ := hK
  unfold hStore at hst
  split at hst
  · rename_i k off
    simp only [Option.bind_eq_some_iff] at hst
    obtain ⟨o, ho, hst⟩ := hst
    split at hst
    · rename_i hlt
      simp only [Option.some.injEq] at hst
      subst hst
      have hk := hGet_some ho
      obtain ⟨h1, h2, E, h3, h4⟩ := h
      have hv := aeval_rep h4 y
      rw [hy] at hv
      obtain ⟨_, hval⟩ := one_inv hv
      have hz' := aeval_rep h4 z
      rw [hz] at hz'
      have hzr := one_inv hz'
      have hz1 := hzr.oneCell
      obtain ⟨vs, ty, b1, hfit, h1c, g1, g2⟩ := h3.hwr hk off [c] [a.eval z] rfl (fun i c' hi => by
        cases i with
        | zero => simp at hi; subst hi; exact ⟨hlt.2, hzr⟩
        | succ i => simp at hi) (by simp; omega)
      have hrun := run_storeCells_at P (E.γ k) off ty [a.eval z] 0 vs w b1 (by simpa using hfit) h1c
      simp only [Nat.add_zero] at hrun
      refine ⟨undef, _, .tup [], s.hset k ⟨rpl o.cs off [c], o.ex⟩, .inr ⟨?_, rfl⟩, ⟨h1, h2, E, g1, fun i => (h4 i).keep g2 (.refl E), .tup [] [] rfl (by simp)⟩, hK, rfl⟩
      have hsz2 : (a.eval z).cells.size = 1 := by rw [cells_one hz1]; rfl
      have hcl : (a.eval z).cells.toList = [a.eval z] := by rw [cells_one hz1]
      rw [hval]
      simp [Instr.storeAt, Instr.sureAddr, storeVar, run_sizeOf hs, hsz2, hcl, hrun]
    · cases hst
  · cases hst

theorem hLen_val {W : WSet} {E : Env} {c : C} {v : Value} {n : Nat} (h : RepC w W E c v) (hl : hLen c = some n) : ∃ b cap, v = .slice b n cap ∧ n ≤ cap ∨ n = 0 ∧ v = .slice b n cap := by
  cases c with
  | hs k off len =>
    simp only [hLen, Option.some.injEq] at hl; subst hl
    obtain ⟨_, b, cap, rfl, hc⟩ := h
    refine ⟨b, cap, ?_⟩
    rcases hc with ⟨h0, _, _⟩ | ⟨_, h1, _⟩
    · exact .inr ⟨h0, rfl⟩
    · exact .inl ⟨rfl, h1⟩
  | d u =>
    cases u with
    | sl es =>
      simp only [hLen, Option.some.injEq] at hl; subst hl
      have h : RepD w W (.sl es) v := h
      obtain ⟨base, cap, hv, hc⟩ := h.slice_shape
      refine ⟨base, cap, ?_⟩
      rcases hc with rfl | ⟨hc, _⟩
      · exact .inr ⟨rfl, hv⟩
      · exact .inl ⟨hv, hc⟩
    | _ => cases hl
  | full es =>
    simp only [hLen, Option.some.injEq] at hl; subst hl
    obtain ⟨_, b, rfl⟩ := h
    exact ⟨b, es.length, .inl ⟨rfl, Nat.le_refl _⟩⟩
  | _ => cases hl

theorem ahLen_sound (h : RepSt P x s a w) {t ty e : TypeId} {y : Operand} {v : C} {n : Nat} (he : sl1 P t e) (hy : aeval s y = .one v) (hn : hLen v = some n) (hK : K (.one (.d (.v (.int .i64 n)))) s) :
    OpOK P x s a w (do pure (.value (← Builtin.len_ #[t] ty #[a.eval y]))) K := by
  obtain ⟨W, E, hr⟩ := evals h y
  rw [hy] at hr
  obtain ⟨b, cap, hv⟩ := hLen_val (one_inv hr) hn
  have hval : a.eval y = .slice b n cap := by rcases hv with ⟨hv, _⟩ | ⟨_, hv⟩ <;> exact hv
  rw [hval]
  exact OpOK.pure h (v := .int .i64 n) (by simp [Builtin.len_, run_underlying (telem_und he.1), goInt]) (fun _ _ _ => RepA.v _ rfl) hK

theorem run_bounds3 (w : World) (isSl : Bool) (len cap : Nat) (lo : Option Value) (a b q : Int) (k k' : IntKind) (h0 : 0 ≤ a) (h1 : a ≤ b) (h2 : b ≤ q) (h3 : q ≤ cap)
    (hl : (lo = none ∧ a = 0) ∨ ∃ k, lo = some (.int k a)) :
    (Instr.sliceBounds isSl len cap lo (some (.int k b)) (some (.int k' q))).run P w = .ok (a.toNat, b.toNat, q.toNat) w := by
  have r1 := fun code => run_sliceBound (P := P) (w := w) k' q cap code (by omega) h3
  have r2 := fun code => run_sliceBound (P := P) (w := w) k b q.toNat code (by omega) (by omega)
  rcases hl with ⟨rfl, rfl⟩ | ⟨k2, rfl⟩
  · simp [Instr.sliceBounds, r1, r2]
  · have r3 := fun code => run_sliceBound (P := P) (w := w) k2 a b.toNat code h0 (by omega)
    simp [Instr.sliceBounds, r1, r2, r3]

theorem run_boundsX (w : World) (isSl : Bool) (len cap : Nat) (lo hi : Option Value) (a b : Int) (h0 : 0 ≤ a) (h1 : a ≤ b) (hbc : b ≤ cap)
    (hl : (lo = none ∧ a = 0) ∨ ∃ k, lo = some (.int k a)) (hh : (hi = none ∧ b = len) ∨ ∃ k, hi = some (.int k b)) :
    (Instr.sliceBounds isSl len cap lo hi none).run P w = .ok (a.toNat, b.toNat, cap) w := by
  have hb0 : 0 ≤ b := by omega
  rcases hl with ⟨rfl, rfl⟩ | ⟨k, rfl⟩ <;> rcases hh with ⟨rfl, rfl⟩ | ⟨k', rfl⟩
  · simp [Instr.sliceBounds]
  · simp [Instr.sliceBounds, run_sliceBound, hb0, hbc]
  · have e : a ≤ ((len : Nat) : Int) := by omega
    simp [Instr.sliceBounds, run_sliceBound, h0, e]
  · have e : a ≤ ((b.toNat : Nat) : Int) := by omega
    have r1 := fun code => run_sliceBound (P := P) (w := w) k' b cap code hb0 hbc
    have r2 := fun code => run_sliceBound (P := P) (w := w) k a b.toNat code h0 e
    simp only [Instr.sliceBounds, Sem.run_bind, Sem.run_pure, Result.andThen_ok, r1, r2]

theorem ahSlice_sound (h : RepSt P x s a w) {t : TypeId} {y : Operand} {lo hi mx : Option Operand} (hK : aheap P s (.slice t y lo hi mx) K) :
    OpOK P x s a w (do pure (.value (← Instr.sliceAt t (a.eval y) (lo.map a.eval) (hi.map a.eval) (mx.map a.eval)))) K := by
  cases mx with
  | none =>
    obtain ⟨e, c, n, p, q, r, ⟨he, hs⟩, hy, hn, hp, hq, hr, hK⟩ := hK
    have hu := telem_und he
    have hrun : ∀ (base : Option Addr) (len cap : Nat) (p q : Int), 0 ≤ p → p ≤ q → q ≤ cap → obd s 0 lo = some p → obd s len hi = some q →
        (Instr.sliceAt t (.slice base len cap) (lo.map a.eval) (hi.map a.eval) none).run P w =
          .ok (.slice (if cap = p.toNat then base else base.map (·.add (p.toNat * 1))) (q.toNat - p.toNat) (cap - p.toNat)) w := fun base len cap p q h0 h1 h2 hp hq => by
      have hb := run_boundsX (P := P) w true len cap (lo.map a.eval) (hi.map a.eval) p q h0 h1 h2 (optmap_lo h hp) (optmap_lo h hq)
      simp only [Instr.sliceAt, Sem.run_bind, run_underlying hu, Result.andThen_ok, Instr.slice, hb, run_sizeOf hs, Sem.run_pure]
    have hD : ∀ es : List (List D), slElems (aeval s y) = some es → n = es.length → ((∀ y ∈ es, y.length = 1) ∧ 0 ≤ p ∧ p ≤ q ∧ q ≤ es.length) → r = .d (.sl ((es.take q.toNat).drop p.toNat)) →
        (∀ l, aeval s y ≠ .one (.d (.s l))) → OpOK P x s a w (do pure (.value (← Instr.sliceAt t (a.eval y) (lo.map a.eval) (hi.map a.eval) none))) K := fun es hes hne hb hr hns => by
      subst hr
      subst hne
      refine aSlice_sound h (mx := none) ?_
      unfold aSlice
      simp only [he, hs, hes, hp, hq]
      exact ⟨hb.1, hb.2.1, hb.2.2.1, hb.2.2.2, hK⟩
    cases c with
    | hs k off len =>
      simp only [hLen, Option.some.injEq] at hn
      subst hn
      obtain ⟨h1, h2, E, h3, h4⟩ := id h
      have hv := aeval_rep h4 y
      rw [hy] at hv
      obtain ⟨hk, b, cap, hval, hc⟩ := hs_inv hv
      have hlc : len ≤ cap := by rcases hc with ⟨rfl, rfl, _⟩ | ⟨_, h, _⟩ <;> omega
      obtain ⟨⟨k0, k1, k2⟩, rfl⟩ : (0 ≤ p ∧ p ≤ q ∧ q ≤ cap) ∧ r = .hs k (off + p.toNat) (q - p).toNat := by
        simp only [hSubX] at hr
        split at hr
        · rename_i hb
          simp only [Option.some.injEq] at hr
          exact ⟨by omega, hr.symm⟩
        · simp only [Option.bind_eq_some_iff] at hr
          obtain ⟨o, ho, hr⟩ := hr
          split at hr
          · rename_i hb
            simp only [Option.some.injEq] at hr
            obtain ⟨vs, t', g1, g2, g3, _⟩ := h3.hp.ob k o (hGet_some ho)
            refine ⟨⟨hb.1, hb.2.1, ?_⟩, hr.symm⟩
            have := hb.2.2
            rcases hc with ⟨rfl, rfl, hg⟩ | ⟨_, hcap, hg⟩ <;> omega
          · cases hr
      have hr := hrun b len cap p q k0 k1 k2 hp hq
      refine ⟨.slice (if cap = p.toNat then b else b.map (·.add (p.toNat * 1))) (q.toNat - p.toNat) (cap - p.toNat), w, _, s, .inl (by simp only [Option.map_none]; rw [hval]; simp only [Sem.run_bind, hr, Result.andThen_ok, Sem.run_pure]), ⟨h1, h2, E, h3, h4, .one (.hs k (off + p.toNat) (q - p).toNat) _ ?_⟩, hK, rfl⟩
      refine ⟨hk, _, _, by rw [toNat_sub' k0 k1], ?_⟩
      rcases hc with ⟨rfl, rfl, hg⟩ | ⟨rfl, hcap, hg⟩
      · left
        have : p = 0 := by omega
        subst this
        have : q = 0 := by omega
        subst this
        exact ⟨by simp, by simp, by simp [hg]⟩
      · by_cases hcp : cap = p.toNat
        · left
          refine ⟨by omega, by omega, by omega⟩
        · right
          rw [if_neg hcp]
          refine ⟨by simp [add_none], by omega, by omega⟩
    | d u =>
      cases u with
      | sl es =>
        simp only [hLen, Option.some.injEq] at hn
        simp only [hSubX, hSub] at hr
        split at hr
        · rename_i hb
          simp only [Option.some.injEq] at hr
          exact hD es (by rw [hy]; rfl) hn.symm hb hr.symm (by rw [hy]; simp)
        · cases hr
      | _ => cases hn
    | full es =>
      simp only [hLen, Option.some.injEq] at hn
      simp only [hSubX, hSub] at hr
      split at hr
      · rename_i hb
        simp only [Option.some.injEq] at hr
        exact hD es (by rw [hy]; rfl) hn.symm hb hr.symm (by rw [hy]; simp)
      · cases hr
    | _ => cases hn
  | some m =>
    obtain ⟨e, c, n, p, b, q, ⟨he, hs⟩, hy, hn, hp, his, hb, hq, h0, h1, h2, h3', hK⟩ := hK
    have hu := telem_und he
    obtain ⟨W, E, hr⟩ := evals h y
    rw [hy] at hr
    obtain ⟨base, cap, hv⟩ := hLen_val (one_inv hr) hn
    obtain ⟨hval, hnc⟩ : a.eval y = .slice base n cap ∧ q ≤ cap := by
      rcases hv with ⟨hv, hc⟩ | ⟨h00, hv⟩
      · exact ⟨hv, by omega⟩
      · exact ⟨hv, by omega⟩
    obtain ⟨hop, rfl⟩ := Option.isSome_iff_exists.1 his
    obtain ⟨k1, hb1⟩ : ∃ k, a.eval hop = .int k b := by
      rcases obd_val h hb with ⟨h5, _⟩ | ⟨k, h5⟩
      · cases h5
      · exact ⟨k, by simpa using h5⟩
    obtain ⟨k2, hq1⟩ : ∃ k, a.eval m = .int k q := by
      rcases obd_val h hq with ⟨h5, _⟩ | ⟨k, h5⟩
      · cases h5
      · exact ⟨k, by simpa using h5⟩
    have hbd := run_bounds3 (P := P) w true n cap (lo.map a.eval) p b q k1 k2 h0 h1 h2 hnc (optmap_lo h hp)
    rw [hval]
    refine OpOK.pure h (v := .slice (if q.toNat = p.toNat then base else base.map (·.add (p.toNat * 1))) (b.toNat - p.toNat) (q.toNat - p.toNat)) ?_ (fun _ _ _ => .one .any _ rfl) hK
    simp only [Option.map_some, hb1, hq1, Instr.sliceAt, Sem.run_bind, run_underlying hu, Result.andThen_ok, Instr.slice, hbd, run_sizeOf hs, Sem.run_pure]
end sound
end Go.Av
