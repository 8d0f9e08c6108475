/-
  The program's copy of a table.
-/
import Derived.Test.YtnfbgleaodkjpaaHtTab
set_option linter.all false
set_option linter.unusedSimpArgs false
namespace Go.Av

theorem upd_const {α : Type} (i : Nat) (y : α) : upd (fun _ => y) i y = fun _ => y := by
  funext j; unfold upd; split <;> rfl
theorem set_set_mid (t : Tab) (i : Nat) (hi : i < t.length) (a : Row) : ((((t.take i) ++ List.replicate (t.length - i) []).set i a).set i t[i]) = t.take (i + 1) ++ List.replicate (t.length - (i + 1)) [] := by
  rw [List.set_set]
  have h1 : (t.take i).length = i := by simp; omega
  rw [List.set_append_right _ _ (by omega), h1, Nat.sub_self]
  obtain ⟨m, hm⟩ : ∃ m, t.length - i = m + 1 := ⟨t.length - i - 1, by omega⟩
  rw [hm, List.replicate_succ, List.set_cons_zero, List.take_succ_eq_append_getElem hi, List.append_assoc]
  rw [show t.length - (i + 1) = m by omega]
  rfl
theorem rpl_all (cs ys : List C) (h : ys.length = cs.length) : rpl cs 0 ys = ys := by
  apply List.ext_getElem?
  intro j
  rw [getElem?_rpl _ _ _ (by omega)]
  split
  · omega
  · split
    · simp
    · rename_i h1 h2
      rw [List.getElem?_eq_none (by omega), List.getElem?_eq_none (by omega)]
/-- A whole row copied into a row's block. -/
theorem RwP.copy {H : Hp} {rc : C} {r0 r : Row} (h : RwP (some true) H rc r0) (hl : r.length = r0.length) (hpos : 0 < r.length) : ∃ q : Nat × Hp, hCopy H rc (r.map sC) = some q ∧ But rc H q.2 ∧ RwP (some true) q.2 rc r := by
  rcases h with ⟨rfl, _⟩ | ⟨k, rfl, h2⟩
  · simp at hl; simp [hl] at hpos
  · have hkl := hGet_lt h2
    refine ⟨(r.length, H.set k (some ⟨r.map sC, true⟩)), ?_, ⟨by simp, fun q _ hq => hGet_set_ne (fun e => hq (by rw [e]; rfl)) _⟩, .inr ⟨k, by rw [hl], hGet_set_self hkl _⟩⟩
    simp only [hCopy, h2, Option.bind_some]
    rw [if_pos (by simp)]
    have : min (r.map sC).length r0.length = r.length := by simp [hl]
    rw [this, List.take_of_length_le (by simp), rpl_all _ _ (by simp [hl])]

theorem tables_clone_gen (t : Tab) (ht : t.length ≤ 1000) (hr : ∀ r ∈ t, 1 ≤ r.length ∧ r.length ≤ 1000) (H : Hp) (Φ : Phi) (Ψ : Psi) (f : Nat) (hf : 1001 ≤ f) :
    ∃ c' H', tables_clone Φ Ψ f (tD t) H = some (.one c', H') ∧ MuT H.length (fun _ => some true) H' c' t ∧ Ext H.length H H' := by
  have hz1 : (0 : Int) ≤ (t.length : Int) := by omega
  have hz2 : (t.length : Int) ≤ 9223372036854775807 := by omega
  have hz3 : 24 * (t.length : Int) ≤ 281474976710656 := by omega
  simp only [tables_clone, hz1, hz2, hz3, decide_true, Bool.and_self, xif_tt, hPush, Option.bind_some, length_tD, Int.toNat_natCast]
  have key := iter_ex (R := A × Hp) t.length (fun i (x : Hp × C × List (List D) × Int × Int × Unit) => ∃ H1, x = (H1, .hs H.length 0 t.length, tD t, (t.length : Int), (i : Int), ()) ∧ MuT H.length (fun _ => some true) H1 (.hs H.length 0 t.length) (t.take i ++ List.replicate (t.length - i) []) ∧ Ext H.length H H1) (fun p => ∃ c' H', p = (.one c', H') ∧ MuT H.length (fun _ => some true) H' c' t ∧ Ext H.length H H')
    (F := fun (x : Hp × C × List (List D) × Int × Int × Unit) (rec : (Hp × C × List (List D) × Int × Int × Unit) → Option (A × Hp)) => tables_clone_l0 Φ Ψ f (fun a b c d e => rec (a, b, c, d, e, ())) x.1 x.2.1 x.2.2.1 x.2.2.2.1 x.2.2.2.2.1)
    (fun i x rec hi hx hrec => by
      obtain ⟨H1, rfl, hm, he⟩ := hx
      by_cases hlt : i < t.length
      · have hw := wrap_i (i + 1) (by omega) (by omega)
        have hlt' : (i : Int) < t.length := by omega
        obtain ⟨hr1, hr2⟩ := hr _ (List.getElem_mem hlt)
        have hpl : (t.take i ++ List.replicate (t.length - i) ([] : Row)).length = t.length := by simp; omega
        obtain ⟨p, rc, a1, a2, a3, a4, a5, _⟩ := hm.at he.1 i (by omega)
        have hbut : But rc H1 (H1 ++ [some ⟨List.replicate t[i].length (sC []), true⟩]) := ⟨by simp, fun q hq _ => hGet_push_lt hq _⟩
        have hnew : RwP (some true) (H1 ++ [some ⟨List.replicate t[i].length (sC []), true⟩]) (.hs H1.length 0 t[i].length) (List.replicate t[i].length []) := .inr ⟨H1.length, by simp, by rw [List.map_replicate]; exact hGet_push H1 _⟩
        obtain ⟨H2, b1, b2, b3⟩ := a5 (some true) _ _ _ hbut hnew (fun q hq => by simp only [C.hid, Option.some.injEq] at hq; right; omega)
        rw [upd_const] at b2
        obtain ⟨p', rc', d1, d2, d3, d4, _, d6⟩ := b2.at b3.1 i (by simp; omega)
        rw [a1] at d1
        simp only [Option.some.injEq] at d1
        subst d1
        have hg : ((t.take i ++ List.replicate (t.length - i) ([] : Row)).set i (List.replicate t[i].length []))[i]'(by simp; omega) = List.replicate t[i].length [] := by simp
        rw [hg] at d3
        obtain ⟨q, e1, e2, e3⟩ := d3.copy (r := t[i]) (by simp) (by omega)
        obtain ⟨f1, _⟩ := d6 (some true) q.2 t[i] e2 e3
        rw [upd_const, set_set_mid t i hlt] at f1
        have hs1 : (0 : Int) ≤ (t[i].length : Int) := by omega
        have hs2 : (t[i].length : Int) ≤ 9223372036854775807 := by omega
        have hs3 : 16 * (t[i].length : Int) ≤ 281474976710656 := by omega
        have hA : hAddr (.d (.sl (tD t))) (i : Int) = some (.d (.pp [.sl (rD t[i])])) := hAt_tD t i hlt
        have hL : hLoad H1 (.d (.pp [.sl (rD t[i])])) = some (.d (.sl (rD t[i]))) := rfl
        have hN : hLen (.d (.sl (rD t[i]))) = some t[i].length := by simp [hLen]
        have hokc : C.hok (.hs H.length 0 t.length) = true := rfl
        simp only [tables_clone_l0, xite_decide, hlt', if_true, hA, hL, hN, Option.bind_some, hs1, hs2, hs3, decide_true, Bool.and_self, xif_tt, hPush, Int.toNat_natCast, a1, b1, d2, hCells_rD, e1, hokc, hw]
        exact hrec _ hlt ⟨q.2, rfl, f1, he.trans (b3.trans (e2.ext b3.1 d4))⟩
      · have hlt' : ¬ (i : Int) < t.length := by omega
        obtain rfl : i = t.length := by omega
        rw [List.take_length, Nat.sub_self, List.replicate_zero, List.append_nil] at hm
        have hok : xokR (.one (.hs H.length 0 t.length)) = true := rfl
        simp only [tables_clone_l0, xite_decide, hlt', if_false, hok, xif_tt]
        exact ⟨_, rfl, _, H1, rfl, hm, he⟩) f 0 (H ++ [some ⟨List.replicate t.length (.full []), true⟩], .hs H.length 0 t.length, tD t, (t.length : Int), (0 : Int), ()) (by omega) (by omega)
      ⟨_, rfl, .inr ⟨H.length, _, true, Nat.le_refl _, by simp, hGet_push H _, by simp, fun i r hr => by
        simp only [List.take_zero, List.nil_append, Nat.sub_zero] at hr
        obtain ⟨hlt, rfl⟩ := List.getElem?_replicate.symm ▸ hr |> fun h => by
          rw [List.getElem?_replicate] at hr
          split at hr
          · rename_i hlt; simp only [Option.some.injEq] at hr; exact (⟨hlt, hr.symm⟩ : i < t.length ∧ r = [])
          · cases hr
        exact ⟨.full [], by rw [List.getElem?_replicate, if_pos hlt], .inl ⟨rfl, rfl⟩, (fun e => by cases e), (fun q e => by cases e)⟩, fun i j ra rb q _ ha _ hq => by
        rw [List.getElem?_replicate] at ha
        split at ha
        · simp only [Option.some.injEq] at ha; subst ha; cases hq
        · cases ha⟩, .push (Nat.le_refl _) _⟩
  obtain ⟨_, hr, c', H', rfl, h1, h2⟩ := key
  exact ⟨c', H', hr, h1, h2⟩
theorem tables_clone_Ψ (t : Tab) (ht : t.length ≤ 1000) (hr : ∀ r ∈ t, 1 ≤ r.length ∧ r.length ≤ 1000) (H : Hp) (n : Nat) (hn : 1002 ≤ n) :
    ∃ c' H', (O0 n).Ψ i_tables_clone [aT t] H = some (.one c', H') ∧ MuT H.length (fun _ => some true) H' c' t ∧ Ext H.length H H' := by
  obtain ⟨m, rfl⟩ := nat_succ (n := n) (k := 0) (by omega)
  obtain ⟨c', H', h1, h2, h3⟩ := tables_clone_gen t ht hr H (O0 m).Φ (O0 m).Ψ m (by omega)
  exact ⟨c', H', by rw [tables_clone_runH]; exact h1, h2, h3⟩
end Go.Av
