/-
  Blocks of one's own under names that are counted on: how they are written, made, given up. Over any program. No toy.
-/
import Derived.Test.YtnfbgleaodkjpaaHvOps5
set_option linter.all false
namespace Go.Av
open Go.RowKit

def St.hset (s : St) (k : Nat) (o : HO) : St := { s with H := s.H.set k (some o) }
def St.hpush (s : St) (o : HO) : St := { s with H := s.H ++ [some o] }
def St.hkill (s : St) (k : Nat) : St := { s with H := s.H.set k none }
def St.hput (s : St) (H : Hp) : St := { s with H := H }
def Env.push (E : Env) (g sz : Nat) : Env := { E with hn := E.hn + 1, γ := upd E.γ E.hn g, gs := upd E.gs E.hn sz }

theorem set_get {H : Hp} {k j : Nat} {o : Option HO} {q : HO} (h : (H.set k o)[j]? = some (some q)) : (j = k ∧ o = some q) ∨ (j ≠ k ∧ H[j]? = some (some q)) := by
  rw [List.getElem?_set] at h
  split at h
  · rename_i e
    split at h
    · simp only [Option.some.injEq] at h; exact .inl ⟨e.symm, h⟩
    · cases h
  · rename_i e; exact .inr ⟨fun e' => e e'.symm, h⟩
theorem push_get {H : Hp} {j : Nat} {o q : HO} (h : (H ++ [some o])[j]? = some (some q)) : (j < H.length ∧ H[j]? = some (some q)) ∨ (j = H.length ∧ o = q) := by
  rw [List.getElem?_append] at h
  split at h
  · rename_i hl; exact .inl ⟨hl, h⟩
  · rename_i hl
    have h0 : j - H.length = 0 := by
      rcases Nat.eq_zero_or_pos (j - H.length) with h0 | h0
      · exact h0
      · rw [List.getElem?_eq_none (by simp; omega)] at h; cases h
    rw [h0] at h
    simp only [List.getElem?_cons_zero, Option.some.injEq] at h
    exact .inr ⟨by omega, h⟩

/-- All but the blocks of the slices, kept. -/
theorem RepE.other {P : Program} {x : Ent} {s : St} {w : World} {E : Env} (h3 : RepE P x s w E) {s' : St} {w' : World} {E' : Env} (hsh : s'.h = s.h) (hst : s'.tip = s.tip) (hso : s'.o = s.o) (hsn : s'.n = s.n)
    (heβ : E'.β = E.β) (heτ : E'.τ = E.τ) (hen : E'.n = E.n) (le : E.le E') (fr : Fr x w') (hbl : ∀ b, b < w.heap.size → (∀ k o, s.H[k]? = some (some o) → E.γ k ≠ b) → w'.heap[b]? = w.heap[b]?)
    (kp : Keeps w (Wn x s E) w' (Wn x s' E')) (fresh : ∀ b o, OwnH s' E' b o → x.w0.heap.size ≤ b ∨ x.Own0 b o) (hp : HOk x s' w' E') : RepE P x s' w' E' where
  fr := fr
  n := by rw [hen, hsn]; exact h3.n
  le := h3.le.trans le
  box := fun id cs hi => by
    rw [hsh] at hi
    obtain ⟨g1, g2⟩ := h3.box id cs hi
    refine ⟨by rw [hsn]; exact g1, ?_⟩
    rw [heβ]
    exact g2.keep (hbl _ g2.lt fun k o hk => h3.hp.box k o id cs hk hi) kp le
  inj := fun i j a b hi hj hb => by rw [hsh] at hi hj; rw [heβ] at hb; exact h3.inj i j a b hi hj hb
  tip := fun k => by rw [hst, heτ]; exact h3.tip k
  tlt := fun k T hk => by rw [heτ] at hk; rw [hsn]; exact h3.tlt k T hk
  trow := fun k T hk hl => by
    rw [heτ] at hk
    obtain ⟨g, cur, i, g1, g2, g3, g4, g5, g6, g7⟩ := h3.trow k T hk hl
    refine ⟨g, cur, i, g1, ?_, g3, g4, g5, g6, g7⟩
    rw [hbl g (lt_of_heap g2) fun j o hj => h3.hp.tip j o k T g (T.len * T.sz) hj hk ⟨0, g1, by omega, by
      have := Nat.mul_lt_mul_of_lt_of_le hl (Nat.le_refl T.sz) g6; omega⟩]
    exact g2
  tbox := fun k T id cs b o hk hi hs => by rw [heτ] at hk; rw [hsh] at hi; rw [heβ]; exact h3.tbox k T id cs b o hk hi hs
  ttip := fun k k' T T' b o o' hk hk' => by rw [heτ] at hk hk'; exact h3.ttip k k' T T' b o o' hk hk'
  fresh := fun b o ho => by
    rcases ho with ⟨id, cs, hi, hb⟩ | ⟨k, T, hk, hs⟩ | h
    · rw [hsh] at hi; rw [heβ] at hb; exact h3.fresh b o (.inl ⟨id, cs, hi, hb⟩)
    · rw [heτ] at hk; exact h3.fresh b o (.inr (.inl ⟨k, T, hk, hs⟩))
    · exact fresh b o h
  ob := fun id o hi => by
    rw [hso] at hi
    obtain ⟨p1, p2, j, p3, p4⟩ := h3.ob id o hi
    rw [heβ, hsn]
    refine ⟨p1, p2, j, ?_, p4.keep kp⟩
    rw [hbl _ (lt_of_heap p3) fun k q hk => by
      obtain ⟨vs, t, b1, _⟩ := h3.hp.ob k q hk
      exact fun e => h3.ob_ne hi b1 e.symm]
    exact p3
  oinj := fun i j a b hi hj hb => by rw [hso] at hi hj; rw [heβ] at hb; exact h3.oinj i j a b hi hj hb
  hp := hp

section
variable {P : Program} {x : Ent} {s : St} {w : World} {E : Env}

theorem RepE.ownH_fresh (h3 : RepE P x s w E) {b o : Nat} (h : OwnH s E b o) : x.w0.heap.size ≤ b ∨ x.Own0 b o := h3.fresh b o (.inr (.inr h))

/-- A block of one's own, written. -/
theorem RepE.hupd (h3 : RepE P x s w E) {k : Nat} {o : HO} (hk : s.H[k]? = some (some o)) (o' : HO) (vs' : Array Value) (hvs : vs'.size = E.gs k) (hlen : o'.cs.length ≤ vs'.size)
    (hex : o'.ex = true → o'.cs.length = vs'.size) (hc : ∀ (i : Nat) (c : C), o'.cs[i]? = some c → c.hok = true ∧ RepC w (Wn x s E) E c (vs'.getD i undef)) :
    RepE P x (s.hset k o') (w.setRow (E.γ k) vs') E ∧ Keeps w (Wn x s E) (w.setRow (E.γ k) vs') (Wn x (s.hset k o') E) := by
  obtain ⟨old, t, hb, hos, _, _, _⟩ := h3.hp.ob k o hk
  have hklt : k < s.H.length := (List.getElem?_eq_some_iff.1 hk).1
  have hnew := setRow_heap w (E.γ k) old vs' t (0, 0) hb
  have hoth : ∀ b, b ≠ E.γ k → (w.setRow (E.γ k) vs').heap[b]? = w.heap[b]? := fun b hb => setRow_other w _ b _ hb
  have hsize : (w.setRow (E.γ k) vs').heap.size = w.heap.size := by simp [World.setRow]
  generalize hw' : w.setRow (E.γ k) vs' = w' at *
  have hos' : w'.os = w.os := by rw [← hw']; rfl
  have htape' : w'.tape = w.tape := by rw [← hw']; rfl
  have hout' : w'.output = w.output := by rw [← hw']; rfl
  have hH : ∀ j q, (s.hset k o').H[j]? = some (some q) → (j = k ∧ q = o') ∨ (j ≠ k ∧ s.H[j]? = some (some q)) := fun j q hj => by
    rcases set_get hj with ⟨rfl, e⟩ | h
    · simp only [Option.some.injEq] at e; exact .inl ⟨rfl, e.symm⟩
    · exact .inr h
  have hownH : ∀ b p, OwnH (s.hset k o') E b p → OwnH s E b p := by
    rintro b p ⟨j, q, hj, rfl⟩
    rcases hH j q hj with ⟨rfl, rfl⟩ | ⟨_, hj⟩
    · exact ⟨j, o, hk, rfl⟩
    · exact ⟨j, q, hj, rfl⟩
  have hmine : ∀ p, OwnH s E (E.γ k) p := fun p => ⟨k, o, hk, rfl⟩
  have kp : Keeps w (Wn x s E) w' (Wn x (s.hset k o') E) := by
    intro b p u hc hW
    have hne : b ≠ E.γ k := fun e => hW (.inr (.inr (.inr (e ▸ hmine p))))
    refine ⟨?_, fun hW' => hW ?_⟩
    · rw [World.cell?_of_block (w := w) (hoth b hne)]; exact hc
    · rcases hW' with h | h | h | h
      · exact .inl h
      · exact .inr (.inl h)
      · exact .inr (.inr (.inl h))
      · exact .inr (.inr (.inr (hownH b p h)))
  refine ⟨h3.other rfl rfl rfl rfl rfl rfl rfl (.refl E) ?_ (fun b hb hne => hoth b fun e => hne k o hk e.symm) kp (fun b p h => h3.ownH_fresh (hownH b p h)) ?_, kp⟩
  · have hfr := h3.fr
    refine ⟨hos'.trans hfr.os, htape'.trans hfr.tape, hout'.trans hfr.output, by rw [hsize]; exact hfr.size, fun b hb ho => ?_, fun b p u hb ho hc => ?_⟩
    · have hne : b ≠ E.γ k := fun e => by
        subst e
        rcases h3.ownH_fresh (hmine 0) with h | h
        · omega
        · exact ho 0 h
      rw [hoth b hne]; exact hfr.block b hb ho
    · have hne : b ≠ E.γ k := fun e => by
        subst e
        rcases h3.ownH_fresh (hmine p) with h | h
        · omega
        · exact ho h
      rw [World.cell?_of_block (w := w) (hoth b hne)]; exact hfr.cell b p u hb ho hc
  · exact {
      n := by rw [h3.hp.n]; simp [St.hset]
      ob := fun j q hj => by
        rcases hH j q hj with ⟨rfl, rfl⟩ | ⟨hne, hj⟩
        · exact ⟨vs', t, hnew, hvs, hlen, hex, fun i c hi => ⟨(hc i c hi).1, (hc i c hi).2.keep kp (.refl E)⟩⟩
        · obtain ⟨vs, t2, b1, b2, b3, b4, b5⟩ := h3.hp.ob j q hj
          refine ⟨vs, t2, by rw [hoth _ fun e => hne (h3.hp.inj j k q o hj hk e)]; exact b1, b2, b3, b4, fun i c hi => ⟨(b5 i c hi).1, (b5 i c hi).2.keep kp (.refl E)⟩⟩
      inj := fun i j a b hi hj hab => by
        have f : ∀ j q, (s.hset k o').H[j]? = some (some q) → ∃ q', s.H[j]? = some (some q') := fun j q hj => by
          rcases hH j q hj with ⟨rfl, rfl⟩ | ⟨_, hj⟩
          · exact ⟨o, hk⟩
          · exact ⟨q, hj⟩
        obtain ⟨a', ha⟩ := f i a hi
        obtain ⟨b', hb'⟩ := f j b hj
        exact h3.hp.inj i j a' b' ha hb' hab
      box := fun j q id cs hj hi => by
        rcases hH j q hj with ⟨rfl, rfl⟩ | ⟨_, hj⟩
        · exact h3.hp.box j o id cs hk hi
        · exact h3.hp.box j q id cs hj hi
      tip := fun j q i T b p hj hi hs => by
        rcases hH j q hj with ⟨rfl, rfl⟩ | ⟨_, hj⟩
        · exact h3.hp.tip j o i T b p hk hi hs
        · exact h3.hp.tip j q i T b p hj hi hs }

theorem Env.le_push (E : Env) (g sz : Nat) : E.le (E.push g sz) :=
  ⟨Nat.le_refl _, fun _ _ => rfl, fun _ _ T h => ⟨T, h, .inl rfl⟩, Nat.le_succ _, fun k hk => ⟨upd_ne _ _ _ _ (by omega), upd_ne _ _ _ _ (by omega)⟩⟩

/-- A new block of one's own. -/
theorem RepE.hnew (h3 : RepE P x s w E) (o : HO) {w' : World} (gr : Grew w w') (g : Nat) (hg : w.heap.size ≤ g) (vs : Array Value) (t : TypeId) (hb : w'.heap[g]? = some (.cells vs t (0, 0)))
    (hlen : o.cs.length ≤ vs.size) (hex : o.ex = true → o.cs.length = vs.size) (hc : ∀ (i : Nat) (c : C), o.cs[i]? = some c → c.hok = true ∧ RepC w (Wn x s E) E c (vs.getD i undef)) :
    RepE P x (s.hpush o) w' (E.push g vs.size) ∧ Keeps w (Wn x s E) w' (Wn x (s.hpush o) (E.push g vs.size)) := by
  have hn := h3.hp.n
  have hγ : ∀ k, k < s.H.length → (E.push g vs.size).γ k = E.γ k ∧ (E.push g vs.size).gs k = E.gs k := fun k hk => (E.le_push g vs.size).γ k (by omega)
  have hγn : (E.push g vs.size).γ s.H.length = g ∧ (E.push g vs.size).gs s.H.length = vs.size := by
    rw [← hn]; exact ⟨upd_same .., upd_same ..⟩
  have hH : ∀ j q, (s.hpush o).H[j]? = some (some q) → (j < s.H.length ∧ s.H[j]? = some (some q)) ∨ (j = s.H.length ∧ q = o) := fun j q hj => by
    rcases push_get hj with h | ⟨h, e⟩
    · exact .inl h
    · exact .inr ⟨h, e.symm⟩
  have hownH : ∀ b p, OwnH (s.hpush o) (E.push g vs.size) b p → OwnH s E b p ∨ b = g := by
    rintro b p ⟨j, q, hj, rfl⟩
    rcases hH j q hj with ⟨hl, hj⟩ | ⟨rfl, rfl⟩
    · exact .inl ⟨j, q, hj, (hγ j hl).1.symm⟩
    · exact .inr hγn.1
  have kp : Keeps w (Wn x s E) w' (Wn x (s.hpush o) (E.push g vs.size)) := by
    intro b p u hc hW
    refine ⟨gr.cell hc, fun hW' => ?_⟩
    have hlt := World.block_lt_of_cell? w _ hc
    rcases hW' with h | h | h | h
    · exact hW (.inl h)
    · exact hW (.inr (.inl h))
    · exact hW (.inr (.inr (.inl h)))
    · rcases hownH b p h with h | h
      · exact hW (.inr (.inr (.inr h)))
      · subst h; exact absurd hlt (by show ¬ b < w.heap.size; omega)
  refine ⟨h3.other rfl rfl rfl rfl rfl rfl rfl (E.le_push g vs.size) (h3.fr.grew gr) (fun b hb _ => gr.block b hb) kp (fun b p h => ?_) ?_, kp⟩
  · rcases hownH b p h with h | h
    · exact h3.ownH_fresh h
    · have := h3.fr.size; exact .inl (by omega)
  · exact {
      n := by show E.hn + 1 = (s.H ++ [some o]).length; simp [hn]
      ob := fun j q hj => by
        rcases hH j q hj with ⟨hl, hj⟩ | ⟨rfl, rfl⟩
        · obtain ⟨vs2, t2, b1, b2, b3, b4, b5⟩ := h3.hp.ob j q hj
          rw [(hγ j hl).1, (hγ j hl).2]
          exact ⟨vs2, t2, by rw [gr.block _ (lt_of_heap b1)]; exact b1, b2, b3, b4, fun i c hi => ⟨(b5 i c hi).1, (b5 i c hi).2.keep kp (E.le_push g vs.size)⟩⟩
        · rw [hγn.1, hγn.2]
          exact ⟨vs, t, hb, rfl, hlen, hex, fun i c hi => ⟨(hc i c hi).1, (hc i c hi).2.keep kp (E.le_push g vs.size)⟩⟩
      inj := fun i j a b hi hj hab => by
        rcases hH i a hi with ⟨hl, hi'⟩ | ⟨rfl, rfl⟩ <;> rcases hH j b hj with ⟨hl', hj'⟩ | ⟨rfl, rfl⟩
        · rw [(hγ i hl).1, (hγ j hl').1] at hab; exact h3.hp.inj i j a b hi' hj' hab
        · rw [(hγ i hl).1, hγn.1] at hab; have := h3.hlt hi'; omega
        · rw [(hγ j hl').1, hγn.1] at hab; have := h3.hlt hj'; omega
        · rfl
      box := fun j q id cs hj hi => by
        rcases hH j q hj with ⟨hl, hj⟩ | ⟨rfl, rfl⟩
        · rw [(hγ j hl).1]; exact h3.hp.box j q id cs hj hi
        · rw [hγn.1]; have := (h3.box id cs hi).2.lt; show g ≠ E.β id; omega
      tip := fun j q i T b p hj hi hs => by
        rcases hH j q hj with ⟨hl, hj⟩ | ⟨rfl, rfl⟩
        · rw [(hγ j hl).1]; exact h3.hp.tip j q i T b p hj hi hs
        · rw [hγn.1]
          have := h3.own_lt (b := b) (o := p) (.inr (.inl ⟨i, T, hi, hs⟩))
          omega }

/-- A block given up. -/
theorem RepE.hkill (h3 : RepE P x s w E) (k : Nat) : RepE P x (s.hkill k) w E ∧ ∀ b o, Wn x (s.hkill k) E b o → Wn x s E b o := by
  have hH : ∀ j q, (s.hkill k).H[j]? = some (some q) → j ≠ k ∧ s.H[j]? = some (some q) := fun j q hj => by
    rcases set_get hj with ⟨_, e⟩ | h
    · cases e
    · exact h
  have hownH : ∀ b p, OwnH (s.hkill k) E b p → OwnH s E b p := by
    rintro b p ⟨j, q, hj, rfl⟩
    exact ⟨j, q, (hH j q hj).2, rfl⟩
  have hW : ∀ b o, Wn x (s.hkill k) E b o → Wn x s E b o := by
    rintro b o (h | h | h | h)
    · exact .inl h
    · exact .inr (.inl h)
    · exact .inr (.inr (.inl h))
    · exact .inr (.inr (.inr (hownH b o h)))
  refine ⟨h3.other rfl rfl rfl rfl rfl rfl rfl (.refl E) h3.fr (fun _ _ _ => rfl) (Keeps.anti hW) (fun b p h => h3.ownH_fresh (hownH b p h)) ?_, hW⟩
  exact {
    n := by rw [h3.hp.n]; simp [St.hkill]
    ob := fun j q hj => by
      obtain ⟨vs, t, b1, b2, b3, b4, b5⟩ := h3.hp.ob j q (hH j q hj).2
      exact ⟨vs, t, b1, b2, b3, b4, fun i c hi => ⟨(b5 i c hi).1, (b5 i c hi).2.keep (Keeps.anti hW) (.refl E)⟩⟩
    inj := fun i j a b hi hj hab => h3.hp.inj i j a b (hH i a hi).2 (hH j b hj).2 hab
    box := fun j q id cs hj hi => h3.hp.box j q id cs (hH j q hj).2 hi
    tip := fun j q i T b p hj hi hs => h3.hp.tip j q i T b p (hH j q hj).2 hi hs }

/-- A block under a new name, the old one given up. -/
theorem RepE.hmove (h3 : RepE P x s w E) {k : Nat} {o : HO} (hk : s.H[k]? = some (some o)) :
    RepE P x ((s.hkill k).hpush o) w (E.push (E.γ k) (E.gs k)) ∧ (∀ b p, Wn x ((s.hkill k).hpush o) (E.push (E.γ k) (E.gs k)) b p → Wn x s E b p) := by
  have hn := h3.hp.n
  have hlk : (s.hkill k).H.length = s.H.length := by simp [St.hkill]
  have hγ : ∀ j, j < s.H.length → (E.push (E.γ k) (E.gs k)).γ j = E.γ j ∧ (E.push (E.γ k) (E.gs k)).gs j = E.gs j := fun j hj => (E.le_push _ _).γ j (by omega)
  have hγn : (E.push (E.γ k) (E.gs k)).γ s.H.length = E.γ k ∧ (E.push (E.γ k) (E.gs k)).gs s.H.length = E.gs k := by
    rw [← hn]; exact ⟨upd_same .., upd_same ..⟩
  have hH : ∀ j q, ((s.hkill k).hpush o).H[j]? = some (some q) → (j < s.H.length ∧ j ≠ k ∧ s.H[j]? = some (some q)) ∨ (j = s.H.length ∧ q = o) := fun j q hj => by
    rcases push_get hj with ⟨hl, h⟩ | ⟨h, e⟩
    · rcases set_get h with ⟨_, e⟩ | ⟨h1, h2⟩
      · cases e
      · exact .inl ⟨by omega, h1, h2⟩
    · exact .inr ⟨by omega, e.symm⟩
  have hownH : ∀ b p, OwnH ((s.hkill k).hpush o) (E.push (E.γ k) (E.gs k)) b p → OwnH s E b p := by
    rintro b p ⟨j, q, hj, rfl⟩
    rcases hH j q hj with ⟨hl, _, hj⟩ | ⟨rfl, rfl⟩
    · exact ⟨j, q, hj, (hγ j hl).1.symm⟩
    · exact ⟨k, q, hk, hγn.1.symm⟩
  have hW : ∀ b p, Wn x ((s.hkill k).hpush o) (E.push (E.γ k) (E.gs k)) b p → Wn x s E b p := by
    rintro b p (h | h | h | h)
    · exact .inl h
    · exact .inr (.inl h)
    · exact .inr (.inr (.inl h))
    · exact .inr (.inr (.inr (hownH b p h)))
  have kp := Keeps.anti (w := w) hW
  refine ⟨h3.other rfl rfl rfl rfl rfl rfl rfl (E.le_push _ _) h3.fr (fun _ _ _ => rfl) kp (fun b p h => h3.ownH_fresh (hownH b p h)) ?_, hW⟩
  exact {
    n := by show E.hn + 1 = ((s.hkill k).H ++ [some o]).length; simp [hn, hlk]
    ob := fun j q hj => by
      rcases hH j q hj with ⟨hl, _, hj⟩ | ⟨rfl, rfl⟩
      · obtain ⟨vs2, t2, b1, b2, b3, b4, b5⟩ := h3.hp.ob j q hj
        rw [(hγ j hl).1, (hγ j hl).2]
        exact ⟨vs2, t2, b1, b2, b3, b4, fun i c hi => ⟨(b5 i c hi).1, (b5 i c hi).2.keep kp (E.le_push _ _)⟩⟩
      · obtain ⟨vs2, t2, b1, b2, b3, b4, b5⟩ := h3.hp.ob k q hk
        rw [hγn.1, hγn.2]
        exact ⟨vs2, t2, b1, b2, b3, b4, fun i c hi => ⟨(b5 i c hi).1, (b5 i c hi).2.keep kp (E.le_push _ _)⟩⟩
    inj := fun i j a b hi hj hab => by
      rcases hH i a hi with ⟨hl, hne, hi'⟩ | ⟨rfl, rfl⟩ <;> rcases hH j b hj with ⟨hl', hne', hj'⟩ | ⟨rfl, rfl⟩
      · rw [(hγ i hl).1, (hγ j hl').1] at hab; exact h3.hp.inj i j a b hi' hj' hab
      · rw [(hγ i hl).1, hγn.1] at hab; exact absurd (h3.hp.inj i k a _ hi' hk hab) hne
      · rw [(hγ j hl').1, hγn.1] at hab; exact absurd (h3.hp.inj k j _ b hk hj' hab).symm hne'
      · rfl
    box := fun j q id cs hj hi => by
      rcases hH j q hj with ⟨hl, _, hj⟩ | ⟨rfl, rfl⟩
      · rw [(hγ j hl).1]; exact h3.hp.box j q id cs hj hi
      · rw [hγn.1]; exact h3.hp.box k q id cs hk hi
    tip := fun j q i T b p hj hi hs => by
      rcases hH j q hj with ⟨hl, _, hj⟩ | ⟨rfl, rfl⟩
      · rw [(hγ j hl).1]; exact h3.hp.tip j q i T b p hj hi hs
      · rw [hγn.1]; exact h3.hp.tip k q i T b p hk hi hs }

end
end Go.Av
