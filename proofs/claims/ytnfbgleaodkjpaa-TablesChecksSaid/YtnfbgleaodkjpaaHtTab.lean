/-
  The copies of a table, as tables that may be written.
-/
import Derived.Test.YtnfbgleaodkjpaaHtMut
set_option linter.all false
set_option linter.unusedSimpArgs false
namespace Go.Av

theorem OwR.rw {n : Nat} {H : Hp} {c : C} {r : Row} (h : OwR n H c r) : RwP (some false) H c r := by
  rcases h with h | ⟨k, _, h1, h2⟩
  · exact .inl h
  · exact .inr ⟨k, h1, h2⟩

/-- A row appended to a table that may be written. -/
theorem MuT.row {n : Nat} {x : Option Bool} {H : Hp} {c : C} {t : Tab} (ho : OwT n H c t) (hm : MuT n (fun _ => x) H c t) (hn : n ≤ H.length) {rc : C} {r : Row} (hr : RwP x H rc r)
    (hid : ∀ q, rc.hid = some q → n ≤ q ∧ c.hid ≠ some q ∧ ∀ (k : Nat) (cs : List C) (b : Bool) (i : Nat) (rj : C), c.hid = some k → hGet H k = some ⟨cs, b⟩ → cs[i]? = some rj → rj.hid ≠ some q) :
    ∃ c' H', hApp (H ++ [some ⟨[rc], true⟩]) c [rc] = some (c', H') ∧ OwT n H' c' (t ++ [r]) ∧ MuT n (fun _ => x) H' c' (t ++ [r]) ∧ Ext n H H' := by
  obtain ⟨c', H', h1, h2, h3⟩ := ho.row hn hr.rd fun k hk => (hid k hk).2.1
  refine ⟨c', H', h1, h2, ?_, h3⟩
  rcases ho with ⟨rfl, rfl⟩ | ⟨k, cs, o1, rfl, o2, o3, o4⟩
  · simp only [hApp, xOnes, Option.bind_some, Option.some.injEq, Prod.mk.injEq] at h1
    obtain ⟨rfl, rfl⟩ := h1
    refine .inr ⟨_, [rc], false, by simp; omega, rfl, hGet_push _ _, rfl, fun i q hq => ?_, fun i j rj rj' q hij ha hb => ?_⟩
    · cases i with
      | zero =>
        simp only [List.nil_append, List.getElem?_cons_zero, Option.some.injEq] at hq
        subst hq
        refine ⟨rc, rfl, hr.keep fun q hq => ?_, fun e => ?_, fun q hq => (hid q hq).1⟩
        · have := hr.rd.lt q hq
          rw [hGet_push_lt (by simp; omega), hGet_push_lt this]
        · have := hr.rd.lt _ e; simp at this; omega
      | succ i => simp at hq
    · cases i with
      | zero =>
        cases j with
        | zero => exact absurd rfl hij
        | succ j => simp at hb
      | succ i => simp at ha
  · have hkl := hGet_lt o2
    have hbox : hGet (H ++ [some (⟨[rc], true⟩ : HO)]) k = some ⟨cs, false⟩ := by rw [hGet_push_lt hkl]; exact o2
    simp only [hApp, hbox, Option.bind_some] at h1
    rw [if_pos (by simp [o3]), if_neg (by simp [o3]), if_neg (by simp), if_pos trivial] at h1
    simp only [Option.some.injEq, Prod.mk.injEq] at h1
    obtain ⟨rfl, rfl⟩ := h1
    rcases hm with ⟨_, hc⟩ | ⟨k', cs', b', m1, m2, m3, m4, m5, m6⟩
    · cases hc
    · simp only [C.hs.injEq] at m2
      obtain ⟨rfl, _, _⟩ := m2
      rw [o2] at m3
      simp only [Option.some.injEq, HO.mk.injEq] at m3
      obtain ⟨rfl, rfl⟩ := m3
      have hnew := hGet_push ((H ++ [some (⟨[rc], true⟩ : HO)]).set k none) ⟨cs ++ [rc], false⟩
      simp only [List.length_set] at hnew
      have htk : List.take t.length cs = cs := List.take_of_length_le (by omega)
      rw [htk]
      have kp : ∀ (rj : C) (q : Row), RwP x H rj q → rj.hid ≠ some k → RwP x ((H ++ [some (⟨[rc], true⟩ : HO)]).set k none ++ [some (⟨cs ++ [rc], false⟩ : HO)]) rj q ∧ rj.hid ≠ some (H ++ [some (⟨[rc], true⟩ : HO)]).length := fun rj q g2 g3 => by
        refine ⟨g2.keep fun j hj => ?_, fun e => ?_⟩
        · have hjl := g2.rd.lt j hj
          rw [hGet_push_lt (by simp; omega), hGet_set_ne (fun e => g3 (by rw [← e]; exact hj)), hGet_push_lt hjl]
        · have := g2.rd.lt _ e; simp at this; omega
      refine .inr ⟨_, cs ++ [rc], false, by simp; omega, by simp, hnew, by simp [o3], fun i q hq => ?_, fun i j rj rj' q hij ha hb hq => ?_⟩
      · rw [List.getElem?_append] at hq
        split at hq
        · rename_i hlt
          obtain ⟨rj, g1, g2, g3, g4⟩ := m5 i q hq
          obtain ⟨e1, e2⟩ := kp rj q g2 g3
          exact ⟨rj, by rw [List.getElem?_append_left (by omega)]; exact g1, e1, e2, g4⟩
        · rename_i hge
          have hi0 : i - t.length = 0 := by
            have := (List.getElem?_eq_some_iff.1 hq).1
            simp at this; omega
          rw [hi0] at hq
          simp only [List.getElem?_cons_zero, Option.some.injEq] at hq
          subst hq
          obtain ⟨e1, e2⟩ := kp rc r hr fun e => (hid k e).2.1 rfl
          exact ⟨rc, by rw [List.getElem?_append_right (by omega), o3, hi0]; rfl, e1, e2, fun q hq => (hid q hq).1⟩
      · have cell : ∀ (a : Nat) (ra : C), (cs ++ [rc])[a]? = some ra → (a = cs.length ∧ ra = rc) ∨ (a < cs.length ∧ cs[a]? = some ra) := fun a ra ha => by
          rw [List.getElem?_append] at ha
          split at ha
          · rename_i hlt; exact .inr ⟨hlt, ha⟩
          · rename_i hge
            have hi0 : a - cs.length = 0 := by
              have := (List.getElem?_eq_some_iff.1 ha).1
              simp at this; omega
            rw [hi0] at ha
            simp only [List.getElem?_cons_zero, Option.some.injEq] at ha
            exact .inl ⟨by omega, ha.symm⟩
        rcases cell i rj ha with ⟨i1, rfl⟩ | ⟨i1, e1⟩ <;> rcases cell j rj' hb with ⟨j1, rfl⟩ | ⟨j1, e2⟩
        · omega
        · exact (hid q hq).2.2 k cs false j rj' rfl o2 e2
        · intro e'; exact (hid q e').2.2 k cs false i rj rfl o2 e1 hq
        · exact m6 i j rj rj' q hij e1 e2 hq

theorem ref08_table_mu {H : Hp} {c : C} {t : Tab} (h : RdT H c t) (ht : t.length ≤ 1000) (hr : ∀ r ∈ t, r.length ≤ 1000) (n : Nat) (hn : 1 ≤ n) (f : Nat) (hf : 1001 ≤ f) :
    ∃ c' H', ref08_table (O0 n).Φ (O0 n).Ψ f c H = some (.one c', H') ∧ OwT H.length H' c' t ∧ MuT H.length (fun _ => some false) H' c' t ∧ Ext H.length H H' := by
  rw [ref08_table, h.hok, xif_tt]
  have key := iter_ex (R := A × Hp) t.length (fun i (x : Hp × C × C × Int × Unit) => ∃ H1 out, x = (H1, c, out, (i : Int), ()) ∧ OwT H.length H1 out (t.take i) ∧ MuT H.length (fun _ => some false) H1 out (t.take i) ∧ Ext H.length H H1) (fun p => ∃ c' H', p = (.one c', H') ∧ OwT H.length H' c' t ∧ MuT H.length (fun _ => some false) H' c' t ∧ Ext H.length H H')
    (F := fun (x : Hp × C × C × Int × Unit) (rec : (Hp × C × C × Int × Unit) → Option (A × Hp)) => ref08_table_l0 (O0 n).Φ (O0 n).Ψ f (fun a b c d => rec (a, b, c, d, ())) x.1 x.2.1 x.2.2.1 x.2.2.2.1)
    (fun i x rec hi hx hrec => by
      obtain ⟨H1, out, rfl, ho, hm, he⟩ := hx
      have h1 := h.ext he
      by_cases hlt : i < t.length
      · have hw := wrap_i (i + 1) (by omega) (by omega)
        have hlt' : (i : Int) < (t.length : Nat) := by omega
        obtain ⟨p, rc, a1, a2, a3⟩ := h1.at i hlt
        have hl := ref08_list_Ψ a3 (hr _ (List.getElem_mem hlt)) n hn
        have hx1 : Ext H1.length H1 (cpH t[i] H1) := cp_ext t[i] (Nat.le_refl _)
        have hown := cp_own t[i] H1
        have ho1 := ho.ext hx1
        have hm1 := hm.ext hx1
        have hlow : ∀ (k : Nat) (cs : List C) (b : Bool) (j : Nat) (rj : C), out.hid = some k → hGet (cpH t[i] H1) k = some ⟨cs, b⟩ → cs[j]? = some rj → ∀ q, rj.hid = some q → q < H1.length := fun k cs b j rj hk hg hj q hq => by
          have hkl := ho.rd.lt k hk
          rw [hx1.2 k hkl] at hg
          rcases ho with ⟨_, rfl⟩ | ⟨k', cs', _, rfl, o2, o3, o4⟩
          · cases hk
          · simp only [C.hid, Option.some.injEq] at hk
            subst hk
            rw [hg] at o2
            simp only [Option.some.injEq, HO.mk.injEq] at o2
            obtain ⟨rfl, _⟩ := o2
            have hjl : j < (t.take i).length := by have := (List.getElem?_eq_some_iff.1 hj).1; omega
            obtain ⟨rc0, g1, g2, _⟩ := o4 j _ (List.getElem?_eq_getElem hjl)
            rw [hj] at g1
            simp only [Option.some.injEq] at g1
            subst g1
            exact g2.lt q hq
        obtain ⟨c2, H2, d1, d2, d2m, d3⟩ := MuT.row ho1 hm1 (Nat.le_trans he.1 hx1.1) hown.rw (fun q hq => by
          have hq1 := hown.hid q hq
          refine ⟨by have := he.1; omega, fun e => ?_, fun k cs b j rj hk hg hj e => ?_⟩
          · have := ho.rd.lt q e; omega
          · have := hlow k cs b j rj hk hg hj q e; omega)
        have hlen : (t.take i).length = i := by simp; omega
        have hsz : ((t.take i).length + [cpC t[i] H1].length) * 24 ≤ 140737488355328 := by rw [hlen]; simp; omega
        simp only [ref08_table_l0, h1.len, Option.bind_some, xite_decide, hlt', if_true, a1, a2, a3.hok, xif_tt, hl, xone_one, oneCs_one (cp_hok t[i] H1), hPush, ho1.rd.len, hCells_box, hsz, decide_true, d1, h1.hok, d2.rd.hok, hw]
        exact hrec _ hlt ⟨H2, c2, rfl, by rw [List.take_succ_eq_append_getElem hlt]; exact d2, by rw [List.take_succ_eq_append_getElem hlt]; exact d2m, he.trans ((hx1.le he.1).trans d3)⟩
      · have hlt' : ¬ (i : Int) < (t.length : Nat) := by omega
        have hok : xokR (.one out) = true := ho.rd.hok
        rw [List.take_of_length_le (by omega)] at ho hm
        simp only [ref08_table_l0, h1.len, Option.bind_some, xite_decide, hlt', if_false, hok, xif_tt]
        exact ⟨_, rfl, out, H1, rfl, ho, hm, he⟩) f 0 (H, c, .full [], (0 : Int), ()) (by omega) (by omega) ⟨H, .full [], rfl, .inl ⟨rfl, rfl⟩, .inl ⟨rfl, rfl⟩, .refl (Nat.le_refl _)⟩
  obtain ⟨_, hr, c', H', rfl, h1, h2, h3⟩ := key
  exact ⟨c', H', hr, h1, h2, h3⟩
theorem ref08_table_muΨ {H : Hp} {c : C} {t : Tab} (h : RdT H c t) (ht : t.length ≤ 1000) (hr : ∀ r ∈ t, r.length ≤ 1000) (n : Nat) (hn : 1002 ≤ n) :
    ∃ c' H', (O0 n).Ψ i_ref08_table [.one c] H = some (.one c', H') ∧ OwT H.length H' c' t ∧ MuT H.length (fun _ => some false) H' c' t ∧ Ext H.length H H' := by
  obtain ⟨m, rfl⟩ := nat_succ (n := n) (k := 0) (by omega)
  obtain ⟨c', H', h1, h2, h3, h4⟩ := ref08_table_mu h ht hr m (by omega) m (by omega)
  exact ⟨c', H', by rw [ref08_table_runH]; exact h1, h2, h3, h4⟩
end Go.Av
