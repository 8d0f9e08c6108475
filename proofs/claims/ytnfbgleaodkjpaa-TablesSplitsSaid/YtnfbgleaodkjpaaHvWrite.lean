/-
  What a store into a block of one's own, and an append to a slice of one's own, do to an abstract state. Over any program. No toy.
-/
import Derived.Test.YtnfbgleaodkjpaaHvState
set_option linter.all false
namespace Go.Av
open Go.RowKit

def St.write (s : St) (id : Nat) (cs : List C) : St := { s with h := upd s.h id (some cs) }

/-- Cells replaced from a place on. -/
def rpl {α : Type} (cs : List α) (off : Nat) (ys : List α) : List α := cs.take off ++ ys ++ cs.drop (off + ys.length)

theorem length_rpl {α : Type} (cs : List α) (off : Nat) (ys : List α) (h : off + ys.length ≤ cs.length) : (rpl cs off ys).length = cs.length := by
  simp only [rpl, List.length_append, List.length_take, List.length_drop]; omega

theorem getElem?_rpl {α : Type} (cs : List α) (off : Nat) (ys : List α) (h : off + ys.length ≤ cs.length) (k : Nat) :
    (rpl cs off ys)[k]? = if k < off then cs[k]? else if k < off + ys.length then ys[k - off]? else cs[k]? := by
  unfold rpl
  rw [List.append_assoc, List.getElem?_append, List.length_take, Nat.min_eq_left (by omega)]
  split
  · rename_i hk; rw [List.getElem?_take, if_pos hk]
  · rename_i hk
    rw [List.getElem?_append]
    split
    · rename_i hk2; rw [if_pos (by omega)]
    · rename_i hk2
      rw [if_neg (by omega), List.getElem?_drop]
      congr 1
      omega

theorem RepSt.write {P : Program} {x : Ent} (hx : x.ok) {s : St} {a : Act} {w : World} (h : RepSt P x s a w) (id off : Nat) (cs ys : List C) (hi : s.h id = some cs)
    (hf : off + ys.length ≤ cs.length) :
    ∀ E, RepE P x s w E → (∀ i, RepA w (Wn x s E) E (s.t i) (a.tmps.getD i undef)) → ∀ us : List Value, us.length = ys.length →
      (∀ (k : Nat) (c : C), ys[k]? = some c → RepC w (Wn x s E) E c (us.getD k undef)) →
      ∃ old t, w.heap[E.β id]? = some (.cells old t (0, 0)) ∧ off + us.length ≤ old.size ∧ (∀ v ∈ us, v.oneCell' = true) ∧
        RepSt P x (s.write id (rpl cs off ys)) a (w.setRow (E.β id) (old.toList.take off ++ us ++ old.toList.drop (off + us.length)).toArray) := by
  intro E h3 h4 us hul hu
  obtain ⟨h1, h2, _⟩ := h
  obtain ⟨hid, old, t, hb, hos, hoc⟩ := h3.box id cs hi
  have h1c : ∀ v ∈ us, v.oneCell' = true := by
    intro v hv
    obtain ⟨k, hk, rfl⟩ := List.getElem_of_mem hv
    have hk' : k < ys.length := by omega
    have := (hu k _ (List.getElem?_eq_getElem hk')).oneCell
    simpa [hk] using this
  have hfit : off + us.length ≤ old.size := by rw [hos]; omega
  refine ⟨old, t, hb, hfit, h1c, ?_⟩
  have hnew := setRow_heap w (E.β id) old (old.toList.take off ++ us ++ old.toList.drop (off + us.length)).toArray t (0, 0) hb
  have hoth : ∀ k, k ≠ E.β id → (w.setRow (E.β id) (old.toList.take off ++ us ++ old.toList.drop (off + us.length)).toArray).heap[k]? = w.heap[k]? :=
    fun k hk => setRow_other w _ k _ hk
  have hsize : (w.setRow (E.β id) (old.toList.take off ++ us ++ old.toList.drop (off + us.length)).toArray).heap.size = w.heap.size := by simp [World.setRow]
  generalize hw' : w.setRow (E.β id) (old.toList.take off ++ us ++ old.toList.drop (off + us.length)).toArray = w' at *
  have hos' : w'.os = w.os := by rw [← hw']; rfl
  have htape' : w'.tape = w.tape := by rw [← hw']; rfl
  have hout' : w'.output = w.output := by rw [← hw']; rfl
  have hown : ∀ b o, Own (s.write id (rpl cs off ys)) E b o ↔ Own s E b o := by
    intro b o
    constructor
    · rintro (⟨i, c, hc, rfl⟩ | hk)
      · by_cases hii : i = id
        · subst hii; exact .inl ⟨i, cs, hi, rfl⟩
        · exact .inl ⟨i, c, by simpa [St.write, upd, hii] using hc, rfl⟩
      · exact .inr hk
    · rintro (⟨i, c, hc, rfl⟩ | hk)
      · by_cases hii : i = id
        · subst hii; exact .inl ⟨i, rpl cs off ys, by simp [St.write], rfl⟩
        · exact .inl ⟨i, c, by simpa [St.write, upd, hii] using hc, rfl⟩
      · exact .inr hk
  have hmine : ∀ o, Own s E (E.β id) o := fun o => .inl ⟨id, cs, hi, rfl⟩
  have kp : Keeps w (Wn x s E) w' (Wn x (s.write id (rpl cs off ys)) E) := by
    intro b o u hc hW
    have hne : b ≠ E.β id := fun e => hW (.inr (e ▸ hmine o))
    refine ⟨?_, fun hW' => hW (hW'.imp _root_.id (hown b o).1)⟩
    rw [World.cell?_of_block (w := w) (hoth b hne)]; exact hc
  refine ⟨h1, h2, E, ?_, fun i => (h4 i).keep kp (.refl E)⟩
  exact {
    fr := {
      os := hos'.trans h3.fr.os
      tape := htape'.trans h3.fr.tape
      output := hout'.trans h3.fr.output
      size := by rw [hsize]; exact h3.fr.size
      block := fun b hb ho => by
        have hne : b ≠ E.β id := fun e => by
          subst e
          rcases h3.fresh _ 0 (hmine 0) with h | h
          · omega
          · exact ho 0 h
        rw [hoth b hne]; exact h3.fr.block b hb ho
      cell := fun b o u hb ho hc => by
        have hne : b ≠ E.β id := fun e => by
          subst e
          rcases h3.fresh _ o (hmine o) with h | h
          · omega
          · exact ho h
        rw [World.cell?_of_block (w := w) (hoth b hne)]; exact h3.fr.cell b o u hb ho hc }
    n := h3.n
    le := h3.le
    box := fun i c hc => by
      by_cases hii : i = id
      · subst hii
        have hcs : rpl cs off ys = c := by simpa [St.write] using hc
        subst hcs
        refine ⟨hid, _, t, hnew, ?_, fun k c hk => ?_⟩
        · rw [length_rpl _ _ _ hf, ← hos]
          simp only [List.size_toArray, List.length_append, List.length_take, List.length_drop, Array.length_toList]; omega
        · have e : ((old.toList.take off ++ us ++ old.toList.drop (off + us.length)).toArray).getD k undef =
              if k < off then old.getD k undef else if k < off + us.length then us.getD (k - off) undef else old.getD k undef := by
            rw [Array.getD_eq_getD_getElem?, List.getElem?_toArray]
            have := getElem?_rpl old.toList off us (by simpa using hfit) k
            unfold rpl at this
            rw [this]
            (repeat' split) <;> simp [Array.getD_eq_getD_getElem?, List.getD_eq_getElem?_getD]
          rw [e]
          rw [getElem?_rpl _ _ _ hf] at hk
          rw [hul]
          split
          · rename_i hlt; rw [if_pos hlt] at hk; exact (hoc k c hk).keep kp (.refl E)
          · rename_i hlt
            rw [if_neg hlt] at hk
            split
            · rename_i hlt2; rw [if_pos hlt2] at hk; exact (hu _ c hk).keep kp (.refl E)
            · rename_i hlt2; rw [if_neg hlt2] at hk; exact (hoc k c hk).keep kp (.refl E)
      · have hc' : s.h i = some c := by simpa [St.write, upd, hii] using hc
        have hne : E.β i ≠ E.β id := fun e => hii (h3.inj i id c cs hc' hi e)
        exact ⟨(h3.box i c hc').1, (h3.box i c hc').2.keep (hoth _ hne) kp (.refl E)⟩
    inj := fun i j p q hp hq e => by
      have g : ∀ i p, (s.write id (rpl cs off ys)).h i = some p → ∃ p', s.h i = some p' := fun i p hp => by
        by_cases hii : i = id
        · subst hii; exact ⟨cs, hi⟩
        · exact ⟨p, by simpa [St.write, upd, hii] using hp⟩
      obtain ⟨p', hp'⟩ := g i p hp
      obtain ⟨q', hq'⟩ := g j q hq
      exact h3.inj i j p' q' hp' hq' e
    tip := h3.tip
    tlt := h3.tlt
    trow := fun k T hk hl => by
      obtain ⟨gg, cur, i, g1, g2, g3, g4, g5, g6, g7⟩ := h3.trow k T hk hl
      have hne : gg ≠ E.β id := fun e => h3.tbox k T id cs gg (T.len * T.sz) hk hi ⟨0, g1, by omega, by
        have := Nat.mul_lt_mul_of_lt_of_le hl (Nat.le_refl T.sz) g6; omega⟩ e.symm
      exact ⟨gg, cur, i, g1, by rw [hoth _ hne]; exact g2, g3, g4, g5, g6, g7⟩
    tbox := fun k T i c b o hk hc hs => by
      by_cases hii : i = id
      · subst hii; exact h3.tbox k T i cs b o hk hi hs
      · exact h3.tbox k T i c b o hk (by simpa [St.write, upd, hii] using hc) hs
    ttip := h3.ttip
    fresh := fun b o ho => h3.fresh b o ((hown b o).1 ho)
    ob := fun i o hi' => by
      obtain ⟨p1, p2, j, p3, p4⟩ := h3.ob i o hi'
      exact ⟨p1, p2, j, by rw [hoth _ (h3.ob_ne hi' hb)]; exact p3, p4.keep kp⟩
    oinj := h3.oinj
    hp := h3.hp.keep rfl rfl rfl rfl (fun k o hk => hoth _ (h3.hp.box k o id cs hk hi)) kp (fun _ _ _ h => h) (fun k o i c hk hc => by
      by_cases hii : i = id
      · subst hii; exact h3.hp.box k o i cs hk hi
      · exact h3.hp.box k o i c hk (by simpa [St.write, upd, hii] using hc)) h3.hp.tip }

end Go.Av
