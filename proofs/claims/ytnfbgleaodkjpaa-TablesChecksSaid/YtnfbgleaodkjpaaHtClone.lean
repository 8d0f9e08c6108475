/-
  Tables that are written: an outer block, the rows in blocks of their own, no two in one.
-/
import Derived.Test.YtnfbgleaodkjpaaHtRow
set_option linter.all false
set_option linter.unusedSimpArgs false
namespace Go.Av

/-- A row in a block: as much of it as is known; all of it. -/
def RwP (x : Option Bool) (H : Hp) (rc : C) (r : Row) : Prop :=
  match x with
  | none => (r = [] ∧ rc = .full []) ∨ ∃ k o, rc = .hs k 0 r.length ∧ hGet H k = some o ∧ r.length ≤ o.cs.length ∧ ∀ (j : Nat) (s : Txt), r[j]? = some s → o.cs[j]? = some (sC s)
  | some b => (r = [] ∧ rc = .full []) ∨ ∃ k, rc = .hs k 0 r.length ∧ hGet H k = some ⟨r.map sC, b⟩
theorem RwP.weak {x : Option Bool} {H : Hp} {rc : C} {r : Row} (h : RwP x H rc r) : RwP none H rc r := by
  cases x with
  | none => exact h
  | some b =>
    rcases h with h | ⟨k, h1, h2⟩
    · exact .inl h
    · exact .inr ⟨k, _, h1, h2, by simp, fun j s hj => by simp [hj]⟩
theorem RwP.rd {x : Option Bool} {H : Hp} {rc : C} {r : Row} (h : RwP x H rc r) : RdR H rc r := by
  rcases h.weak with ⟨rfl, rfl⟩ | ⟨k, o, h1, h2, h3, h4⟩
  · exact .inr (.inl rfl)
  · exact .inr (.inr ⟨k, 0, o, h1, h2, by omega, fun j s hj => by rw [Nat.zero_add]; exact h4 j s hj⟩)
theorem RwP.keep {x : Option Bool} {H H' : Hp} {rc : C} {r : Row} (h : RwP x H rc r) (hk : ∀ k, rc.hid = some k → hGet H' k = hGet H k) : RwP x H' rc r := by
  cases x with
  | none =>
    rcases h with h | ⟨k, o, h1, h2, h3, h4⟩
    · exact .inl h
    · exact .inr ⟨k, o, h1, by rw [hk k (by rw [h1]; rfl)]; exact h2, h3, h4⟩
  | some b =>
    rcases h with h | ⟨k, h1, h2⟩
    · exact .inl h
    · exact .inr ⟨k, h1, by rw [hk k (by rw [h1]; rfl)]; exact h2⟩

def MuT (n : Nat) (x : Nat → Option Bool) (H : Hp) (c : C) (t : Tab) : Prop :=
  (t = [] ∧ c = .full []) ∨ ∃ k cs b, n ≤ k ∧ c = .hs k 0 t.length ∧ hGet H k = some ⟨cs, b⟩ ∧ cs.length = t.length ∧
    (∀ (i : Nat) (r : Row), t[i]? = some r → ∃ rc, cs[i]? = some rc ∧ RwP (x i) H rc r ∧ rc.hid ≠ some k ∧ ∀ q, rc.hid = some q → n ≤ q) ∧
    ∀ (i j : Nat) (rc rc' : C) (q : Nat), i ≠ j → cs[i]? = some rc → cs[j]? = some rc' → rc.hid = some q → rc'.hid ≠ some q
theorem MuT.rd {n : Nat} {x : Nat → Option Bool} {H : Hp} {c : C} {t : Tab} (h : MuT n x H c t) : RdT H c t := by
  rcases h with ⟨rfl, rfl⟩ | ⟨k, cs, b, _, rfl, h2, h3, h4, _⟩
  · exact .inr (.inl ⟨rfl, rfl⟩)
  · refine .inr (.inr ⟨k, 0, _, rfl, h2, by simp [h3], fun i r hr => ?_⟩)
    obtain ⟨rc, g1, g2, _⟩ := h4 i r hr
    exact ⟨rc, by simpa using g1, g2.rd⟩
theorem MuT.ext {n : Nat} {x : Nat → Option Bool} {H H' : Hp} {c : C} {t : Tab} (h : MuT n x H c t) (hx : Ext H.length H H') : MuT n x H' c t := by
  rcases h with h | ⟨k, cs, b, h1, h2, h3, h4, h5, h6⟩
  · exact .inl h
  · refine .inr ⟨k, cs, b, h1, h2, by rw [hx.2 k (hGet_lt h3)]; exact h3, h4, fun i r hr => ?_, h6⟩
    obtain ⟨rc, g1, g2, g3, g4⟩ := h5 i r hr
    exact ⟨rc, g1, g2.keep fun q hq => hx.2 q (g2.rd.lt q hq), g3, g4⟩

/-- One heap is another but for one row's block, and blocks beyond. -/
def But (rc : C) (H H1 : Hp) : Prop := H.length ≤ H1.length ∧ ∀ q, q < H.length → rc.hid ≠ some q → hGet H1 q = hGet H q
theorem But.ext {n : Nat} {rc : C} {H H1 : Hp} (h : But rc H H1) (hn : n ≤ H.length) (hrc : ∀ q, rc.hid = some q → n ≤ q) : Ext n H H1 := ⟨Nat.le_trans hn h.1, fun q hq => h.2 q (by omega) fun e => by have := hrc q e; omega⟩

theorem MuT.at {n : Nat} {x : Nat → Option Bool} {H : Hp} {c : C} {t : Tab} (h : MuT n x H c t) (hn : n ≤ H.length) (i : Nat) (hi : i < t.length) :
    ∃ p rc, hAddr c (i : Int) = some p ∧ hLoad H p = some rc ∧ RwP (x i) H rc t[i] ∧ (∀ q, rc.hid = some q → n ≤ q) ∧
      (∀ (y : Option Bool) (H1 : Hp) (rc' : C) (r' : Row), But rc H H1 → RwP y H1 rc' r' → (∀ q, rc'.hid = some q → rc.hid = some q ∨ H.length ≤ q) → ∃ H2, hStore H1 p rc' = some H2 ∧ MuT n (upd x i y) H2 c (t.set i r') ∧ Ext n H H2) ∧
      (∀ (y : Option Bool) (H1 : Hp) (r' : Row), But rc H H1 → RwP y H1 rc r' → MuT n (upd x i y) H1 c (t.set i r') ∧ hLoad H1 p = some rc) := by
  rcases h with ⟨rfl, rfl⟩ | ⟨k, cs, b, h1, rfl, h2, h3, h4, h5⟩
  · simp at hi
  · have hkl := hGet_lt h2
    obtain ⟨rc, g1, g2, g3, g4⟩ := h4 i _ (List.getElem?_eq_getElem hi)
    -- what is left of the others
    have others : ∀ (H1 : Hp), But rc H H1 → ∀ (j : Nat) (r : Row), j ≠ i → t[j]? = some r → ∃ rj, cs[j]? = some rj ∧ RwP (x j) H1 rj r ∧ rj.hid ≠ some k ∧ ∀ q, rj.hid = some q → n ≤ q := fun H1 hb j r hji hr => by
      obtain ⟨rj, a1, a2, a3, a4⟩ := h4 j r hr
      exact ⟨rj, a1, a2.keep fun q hq => hb.2 q (a2.rd.lt q hq) fun e => h5 i j rc rj q (Ne.symm hji) g1 a1 e hq, a3, a4⟩
    refine ⟨.hp k i, rc, ?_, ?_, g2, g4, fun y H1 rc' r' hb hw hid => ?_, fun y H1 r' hb hw => ?_⟩
    · simp only [hAddr]; rw [if_pos (by omega)]; simp
    · simp only [hLoad, h2, Option.bind_some]; exact g1
    · have hk1 : hGet H1 k = some ⟨cs, b⟩ := by rw [hb.2 k hkl g3]; exact h2
      have hk1l := hGet_lt hk1
      have hok : rc'.hok = true := hw.rd.hok
      have hics : i < cs.length := by omega
      have hidk : rc'.hid ≠ some k := fun e => by
        rcases hid k e with e | e
        · exact g3 e
        · omega
      have hst : hStore H1 (.hp k i) rc' = some (H1.set k (some ⟨cs.set i rc', b⟩)) := by
        simp only [hStore, hk1, Option.bind_some]
        rw [if_pos ⟨hics, hok⟩]
        congr 4
        apply List.ext_getElem?
        intro j
        rw [getElem?_rpl _ _ _ (by simp; omega), List.getElem?_set]
        by_cases hj : i = j
        · subst hj; simp [hics]
        · simp only [hj, if_false]
          split
          · rfl
          · split
            · rename_i u1 u2; simp only [List.length_singleton] at u2; omega
            · rfl
      have hkeep : ∀ q, q ≠ k → hGet (H1.set k (some ⟨cs.set i rc', b⟩)) q = hGet H1 q := fun q hq => hGet_set_ne hq _
      refine ⟨_, hst, .inr ⟨k, cs.set i rc', b, h1, by simp, hGet_set_self hk1l _, by simp [h3], fun j r hr => ?_, fun a a' ra ra' q haa ha ha' hq => ?_⟩, (hb.ext hn g4).trans (Ext.set (Nat.le_trans hn hb.1) h1 _)⟩
      · rw [List.getElem?_set] at hr
        by_cases hj : i = j
        · subst hj
          rw [if_pos rfl, if_pos hi] at hr
          simp only [Option.some.injEq] at hr
          subst hr
          refine ⟨rc', by simp [hics], ?_, hidk, fun q hq => ?_⟩
          · simp only [upd_same]; exact hw.keep fun q hq => hkeep q fun e => hidk (by rw [← e]; exact hq)
          · rcases hid q hq with e | e
            · exact g4 q e
            · omega
        · rw [if_neg hj] at hr
          obtain ⟨rj, a1, a2, a3, a4⟩ := others H1 hb j r (Ne.symm hj) hr
          refine ⟨rj, by rw [List.getElem?_set, if_neg hj]; exact a1, ?_, a3, a4⟩
          rw [upd_ne _ _ _ _ (Ne.symm hj)]
          exact a2.keep fun q hq => hkeep q fun e => a3 (by rw [← e]; exact hq)
      · have cell : ∀ (a : Nat) (ra : C), (cs.set i rc')[a]? = some ra → (a = i ∧ ra = rc') ∨ (a ≠ i ∧ cs[a]? = some ra) := fun a ra ha => by
          rw [List.getElem?_set] at ha
          by_cases hj : i = a
          · subst hj; rw [if_pos rfl, if_pos hics] at ha; simp only [Option.some.injEq] at ha; exact .inl ⟨rfl, ha.symm⟩
          · rw [if_neg hj] at ha; exact .inr ⟨Ne.symm hj, ha⟩
        have lt : ∀ (a : Nat) (ra : C), cs[a]? = some ra → ∀ q, ra.hid = some q → q < H.length := fun a ra ha q hq => by
          have hal : a < t.length := by have := (List.getElem?_eq_some_iff.1 ha).1; omega
          obtain ⟨rj, a1, a2, _⟩ := h4 a _ (List.getElem?_eq_getElem hal)
          rw [ha] at a1
          simp only [Option.some.injEq] at a1
          subst a1
          exact a2.rd.lt q hq
        rcases cell a ra ha with ⟨rfl, rfl⟩ | ⟨n1, e1⟩ <;> rcases cell a' ra' ha' with ⟨rfl, rfl⟩ | ⟨n2, e2⟩
        · exact absurd rfl haa
        · rcases hid q hq with e | e
          · exact h5 a a' rc ra' q haa g1 e2 e
          · intro e'; have := lt a' ra' e2 q e'; omega
        · intro e'
          rcases hid q e' with e | e
          · exact h5 a a' ra rc q haa e1 g1 hq e
          · have := lt a ra e1 q hq; omega
        · exact h5 a a' ra ra' q haa e1 e2 hq
    · have hk1 : hGet H1 k = some ⟨cs, b⟩ := by rw [hb.2 k hkl g3]; exact h2
      refine ⟨.inr ⟨k, cs, b, h1, by simp, hk1, by simp [h3], fun j r hr => ?_, h5⟩, by simp only [hLoad, hk1, Option.bind_some]; exact g1⟩
      rw [List.getElem?_set] at hr
      by_cases hj : i = j
      · subst hj
        rw [if_pos rfl, if_pos hi] at hr
        simp only [Option.some.injEq] at hr
        subst hr
        exact ⟨rc, g1, by simp only [upd_same]; exact hw, g3, g4⟩
      · rw [if_neg hj] at hr
        obtain ⟨rj, a1, a2, a3, a4⟩ := others H1 hb j r (Ne.symm hj) hr
        exact ⟨rj, a1, by rw [upd_ne _ _ _ _ (Ne.symm hj)]; exact a2, a3, a4⟩
end Go.Av

set_option linter.unusedSimpArgs false
namespace Go.Av

theorem OwR.rw {n : Nat} {H : Hp} {c : C} {r : Row} (h : OwR n H c r) : RwP (some false) H c r := by
  rcases h with h | ⟨k, _, h1, h2⟩
  · exact .inl h
  · exact .inr ⟨k, h1, h2⟩

/-- A row appended to a table that may be written. -/
theorem MuT.row {n : Nat} {x : Option Bool} {H : Hp} {c : C} {t : Tab} (ho : OwT n H c t) (hm : MuT n (fun _ => x) H c t) (hn : n ≤ H.length) {rc : C} {r : Row} (hr : RwP x H rc r)
    (hid : ∀ q, rc.hid = some q → n ≤ q ∧ c.hid ≠ some q ∧ ∀ (k : Nat) (cs : List C) (b : Bool) (i : Nat) (rj : C), c.hid = some k → hGet H k = some ⟨cs, b⟩ → cs[i]? = some rj → rj.hid ≠ some q) :
    ∃ c' H', hApp (H ++ [some ⟨[rc], true⟩]) c [rc] = some (c', H') ∧ OwT n H' c' (t ++ [r]) ∧ MuT n (fun _ => x) H' c' (t ++ [r]) ∧ Ext n H H' := by
  obtain ⟨c', H', h1, h2, h3⟩ := ho.row hn hr.rd fun k hk => ⟨(hid k hk).1, (hid k hk).2.1⟩
  refine ⟨c', H', h1, h2, ?_, h3⟩
  rcases ho with ⟨rfl, rfl⟩ | ⟨k, cs, o1, rfl, o2, o3, o4⟩
  · simp only [hApp, xOnes, Option.bind_some, Option.some.injEq, Prod.mk.injEq] at h1
    obtain ⟨rfl, rfl⟩ := h1
    refine .inr ⟨_, [rc], false, by simp; omega, rfl, hGet_push _ _, rfl, fun i q hq => ?_, fun i j rj rj' q hij ha hb => ?_⟩
    · cases i with
      | zero =>
        simp only [List.nil_append, List.getElem?_cons_zero, Option.some.injEq] at hq
        subst hq
        refine ⟨rc, rfl, hr.keep fun q hq => ?_, fun e => ?_, fun q hq => (hid q hq).1⟩
        · have := hr.rd.lt q hq
          rw [hGet_push_lt (by simp; omega), hGet_push_lt this]
        · have := hr.rd.lt _ e; simp at this; omega
      | succ i => simp at hq
    · cases i with
      | zero =>
        cases j with
        | zero => exact absurd rfl hij
        | succ j => simp at hb
      | succ i => simp at ha
  · have hkl := hGet_lt o2
    have hbox : hGet (H ++ [some (⟨[rc], true⟩ : HO)]) k = some ⟨cs, false⟩ := by rw [hGet_push_lt hkl]; exact o2
    simp only [hApp, hbox, Option.bind_some] at h1
    rw [if_pos (by simp [o3]), if_neg (by simp [o3]), if_neg (by simp), if_pos trivial] at h1
    simp only [Option.some.injEq, Prod.mk.injEq] at h1
    obtain ⟨rfl, rfl⟩ := h1
    rcases hm with ⟨_, hc⟩ | ⟨k', cs', b', m1, m2, m3, m4, m5, m6⟩
    · cases hc
    · simp only [C.hs.injEq] at m2
      obtain ⟨rfl, _, _⟩ := m2
      rw [o2] at m3
      simp only [Option.some.injEq, HO.mk.injEq] at m3
      obtain ⟨rfl, rfl⟩ := m3
      have hnew := hGet_push ((H ++ [some (⟨[rc], true⟩ : HO)]).set k none) ⟨cs ++ [rc], false⟩
      simp only [List.length_set] at hnew
      have htk : List.take t.length cs = cs := List.take_of_length_le (by omega)
      rw [htk]
      have kp : ∀ (rj : C) (q : Row), RwP x H rj q → rj.hid ≠ some k → RwP x ((H ++ [some (⟨[rc], true⟩ : HO)]).set k none ++ [some (⟨cs ++ [rc], false⟩ : HO)]) rj q ∧ rj.hid ≠ some (H ++ [some (⟨[rc], true⟩ : HO)]).length := fun rj q g2 g3 => by
        refine ⟨g2.keep fun j hj => ?_, fun e => ?_⟩
        · have hjl := g2.rd.lt j hj
          rw [hGet_push_lt (by simp; omega), hGet_set_ne (fun e => g3 (by rw [← e]; exact hj)), hGet_push_lt hjl]
        · have := g2.rd.lt _ e; simp at this; omega
      refine .inr ⟨_, cs ++ [rc], false, by simp; omega, by simp, hnew, by simp [o3], fun i q hq => ?_, fun i j rj rj' q hij ha hb hq => ?_⟩
      · rw [List.getElem?_append] at hq
        split at hq
        · rename_i hlt
          obtain ⟨rj, g1, g2, g3, g4⟩ := m5 i q hq
          obtain ⟨e1, e2⟩ := kp rj q g2 g3
          exact ⟨rj, by rw [List.getElem?_append_left (by omega)]; exact g1, e1, e2, g4⟩
        · rename_i hge
          have hi0 : i - t.length = 0 := by
            have := (List.getElem?_eq_some_iff.1 hq).1
            simp at this; omega
          rw [hi0] at hq
          simp only [List.getElem?_cons_zero, Option.some.injEq] at hq
          subst hq
          obtain ⟨e1, e2⟩ := kp rc r hr fun e => (hid k e).2.1 rfl
          exact ⟨rc, by rw [List.getElem?_append_right (by omega), o3, hi0]; rfl, e1, e2, fun q hq => (hid q hq).1⟩
      · have cell : ∀ (a : Nat) (ra : C), (cs ++ [rc])[a]? = some ra → (a = cs.length ∧ ra = rc) ∨ (a < cs.length ∧ cs[a]? = some ra) := fun a ra ha => by
          rw [List.getElem?_append] at ha
          split at ha
          · rename_i hlt; exact .inr ⟨hlt, ha⟩
          · rename_i hge
            have hi0 : a - cs.length = 0 := by
              have := (List.getElem?_eq_some_iff.1 ha).1
              simp at this; omega
            rw [hi0] at ha
            simp only [List.getElem?_cons_zero, Option.some.injEq] at ha
            exact .inl ⟨by omega, ha.symm⟩
        rcases cell i rj ha with ⟨i1, rfl⟩ | ⟨i1, e1⟩ <;> rcases cell j rj' hb with ⟨j1, rfl⟩ | ⟨j1, e2⟩
        · omega
        · exact (hid q hq).2.2 k cs false j rj' rfl o2 e2
        · intro e'; exact (hid q e').2.2 k cs false i rj rfl o2 e1 hq
        · exact m6 i j rj rj' q hij e1 e2 hq

theorem ref08_table_mu {H : Hp} {c : C} {t : Tab} (h : RdT H c t) (ht : t.length ≤ 1000) (hr : ∀ r ∈ t, r.length ≤ 1000) (n : Nat) (hn : 1 ≤ n) (f : Nat) (hf : 1001 ≤ f) :
    ∃ c' H', ref08_table (O0 n).Φ (O0 n).Ψ f c H = some (.one c', H') ∧ OwT H.length H' c' t ∧ MuT H.length (fun _ => some false) H' c' t ∧ Ext H.length H H' := by
  rw [ref08_table, h.hok, xif_tt]
  have key := iter_ex (R := A × Hp) t.length (fun i (x : Hp × C × C × Int × Unit) => ∃ H1 out, x = (H1, c, out, (i : Int), ()) ∧ OwT H.length H1 out (t.take i) ∧ MuT H.length (fun _ => some false) H1 out (t.take i) ∧ Ext H.length H H1) (fun p => ∃ c' H', p = (.one c', H') ∧ OwT H.length H' c' t ∧ MuT H.length (fun _ => some false) H' c' t ∧ Ext H.length H H')
    (F := fun (x : Hp × C × C × Int × Unit) (rec : (Hp × C × C × Int × Unit) → Option (A × Hp)) => ref08_table_l0 (O0 n).Φ (O0 n).Ψ f (fun a b c d => rec (a, b, c, d, ())) x.1 x.2.1 x.2.2.1 x.2.2.2.1)
    (fun i x rec hi hx hrec => by
      obtain ⟨H1, out, rfl, ho, hm, he⟩ := hx
      have h1 := h.ext he
      by_cases hlt : i < t.length
      · have hw := wrap_i (i + 1) (by omega) (by omega)
        have hlt' : (i : Int) < (t.length : Nat) := by omega
        obtain ⟨p, rc, a1, a2, a3⟩ := h1.at i hlt
        have hl := ref08_list_Ψ a3 (hr _ (List.getElem_mem hlt)) n hn
        have hx1 : Ext H1.length H1 (cpH t[i] H1) := cp_ext t[i] (Nat.le_refl _)
        have hown := cp_own t[i] H1
        have ho1 := ho.ext hx1
        have hm1 := hm.ext hx1
        have hlow : ∀ (k : Nat) (cs : List C) (b : Bool) (j : Nat) (rj : C), out.hid = some k → hGet (cpH t[i] H1) k = some ⟨cs, b⟩ → cs[j]? = some rj → ∀ q, rj.hid = some q → q < H1.length := fun k cs b j rj hk hg hj q hq => by
          have hkl := ho.rd.lt k hk
          rw [hx1.2 k hkl] at hg
          rcases ho with ⟨_, rfl⟩ | ⟨k', cs', _, rfl, o2, o3, o4⟩
          · cases hk
          · simp only [C.hid, Option.some.injEq] at hk
            subst hk
            rw [hg] at o2
            simp only [Option.some.injEq, HO.mk.injEq] at o2
            obtain ⟨rfl, _⟩ := o2
            have hjl : j < (t.take i).length := by have := (List.getElem?_eq_some_iff.1 hj).1; omega
            obtain ⟨rc0, g1, g2, _⟩ := o4 j _ (List.getElem?_eq_getElem hjl)
            rw [hj] at g1
            simp only [Option.some.injEq] at g1
            subst g1
            exact g2.lt q hq
        obtain ⟨c2, H2, d1, d2, d2m, d3⟩ := MuT.row ho1 hm1 (Nat.le_trans he.1 hx1.1) hown.rw (fun q hq => by
          have hq1 := hown.hid q hq
          refine ⟨by have := he.1; omega, fun e => ?_, fun k cs b j rj hk hg hj e => ?_⟩
          · have := ho.rd.lt q e; omega
          · have := hlow k cs b j rj hk hg hj q e; omega)
        have hlen : (t.take i).length = i := by simp; omega
        have hsz : ((t.take i).length + [cpC t[i] H1].length) * 24 ≤ 140737488355328 := by rw [hlen]; simp; omega
        simp only [ref08_table_l0, h1.len, Option.bind_some, xite_decide, hlt', if_true, a1, a2, a3.hok, xif_tt, hl, xone_one, oneCs_one (cp_hok t[i] H1), hPush, ho1.rd.len, hCells_box, hsz, decide_true, d1, h1.hok, d2.rd.hok, hw]
        exact hrec _ hlt ⟨H2, c2, rfl, by rw [List.take_succ_eq_append_getElem hlt]; exact d2, by rw [List.take_succ_eq_append_getElem hlt]; exact d2m, he.trans ((hx1.le he.1).trans d3)⟩
      · have hlt' : ¬ (i : Int) < (t.length : Nat) := by omega
        have hok : xokR (.one out) = true := ho.rd.hok
        rw [List.take_of_length_le (by omega)] at ho hm
        simp only [ref08_table_l0, h1.len, Option.bind_some, xite_decide, hlt', if_false, hok, xif_tt]
        exact ⟨_, rfl, out, H1, rfl, ho, hm, he⟩) f 0 (H, c, .full [], (0 : Int), ()) (by omega) (by omega) ⟨H, .full [], rfl, .inl ⟨rfl, rfl⟩, .inl ⟨rfl, rfl⟩, .refl (Nat.le_refl _)⟩
  obtain ⟨_, hr, c', H', rfl, h1, h2, h3⟩ := key
  exact ⟨c', H', hr, h1, h2, h3⟩
theorem ref08_table_muΨ {H : Hp} {c : C} {t : Tab} (h : RdT H c t) (ht : t.length ≤ 1000) (hr : ∀ r ∈ t, r.length ≤ 1000) (n : Nat) (hn : 1002 ≤ n) :
    ∃ c' H', (O0 n).Ψ i_ref08_table [.one c] H = some (.one c', H') ∧ OwT H.length H' c' t ∧ MuT H.length (fun _ => some false) H' c' t ∧ Ext H.length H H' := by
  obtain ⟨m, rfl⟩ := nat_succ (n := n) (k := 0) (by omega)
  obtain ⟨c', H', h1, h2, h3, h4⟩ := ref08_table_mu h ht hr m (by omega) m (by omega)
  exact ⟨c', H', by rw [ref08_table_runH]; exact h1, h2, h3, h4⟩
end Go.Av

set_option linter.unusedSimpArgs false
namespace Go.Av

theorem upd_const {α : Type} (i : Nat) (y : α) : upd (fun _ => y) i y = fun _ => y := by
  funext j; unfold upd; split <;> rfl
theorem set_set_mid (t : Tab) (i : Nat) (hi : i < t.length) (a : Row) : ((((t.take i) ++ List.replicate (t.length - i) []).set i a).set i t[i]) = t.take (i + 1) ++ List.replicate (t.length - (i + 1)) [] := by
  rw [List.set_set]
  have h1 : (t.take i).length = i := by simp; omega
  rw [List.set_append_right _ _ (by omega), h1, Nat.sub_self]
  obtain ⟨m, hm⟩ : ∃ m, t.length - i = m + 1 := ⟨t.length - i - 1, by omega⟩
  rw [hm, List.replicate_succ, List.set_cons_zero, List.take_succ_eq_append_getElem hi, List.append_assoc]
  rw [show t.length - (i + 1) = m by omega]
  rfl
theorem rpl_all (cs ys : List C) (h : ys.length = cs.length) : rpl cs 0 ys = ys := by
  apply List.ext_getElem?
  intro j
  rw [getElem?_rpl _ _ _ (by omega)]
  split
  · omega
  · split
    · simp
    · rename_i h1 h2
      rw [List.getElem?_eq_none (by omega), List.getElem?_eq_none (by omega)]
/-- A whole row copied into a row's block. -/
theorem RwP.copy {H : Hp} {rc : C} {r0 r : Row} (h : RwP (some true) H rc r0) (hl : r.length = r0.length) (hpos : 0 < r.length) : ∃ q : Nat × Hp, hCopy H rc (r.map sC) = some q ∧ But rc H q.2 ∧ RwP (some true) q.2 rc r := by
  rcases h with ⟨rfl, _⟩ | ⟨k, rfl, h2⟩
  · simp at hl; simp [hl] at hpos
  · have hkl := hGet_lt h2
    refine ⟨(r.length, H.set k (some ⟨r.map sC, true⟩)), ?_, ⟨by simp, fun q _ hq => hGet_set_ne (fun e => hq (by rw [e]; rfl)) _⟩, .inr ⟨k, by rw [hl], hGet_set_self hkl _⟩⟩
    simp only [hCopy, h2, Option.bind_some]
    rw [if_pos (by simp)]
    have : min (r.map sC).length r0.length = r.length := by simp [hl]
    rw [this, List.take_of_length_le (by simp), rpl_all _ _ (by simp [hl])]

theorem tables_clone_gen (t : Tab) (ht : t.length ≤ 1000) (hr : ∀ r ∈ t, 1 ≤ r.length ∧ r.length ≤ 1000) (H : Hp) (Φ : Phi) (Ψ : Psi) (f : Nat) (hf : 1001 ≤ f) :
    ∃ c' H', tables_clone Φ Ψ f (tD t) H = some (.one c', H') ∧ MuT H.length (fun _ => some true) H' c' t ∧ Ext H.length H H' := by
  have hz1 : (0 : Int) ≤ (t.length : Int) := by omega
  have hz2 : (t.length : Int) ≤ 9223372036854775807 := by omega
  have hz3 : 24 * (t.length : Int) ≤ 281474976710656 := by omega
  simp only [tables_clone, hz1, hz2, hz3, decide_true, Bool.and_self, xif_tt, hPush, Option.bind_some, length_tD, Int.toNat_natCast]
  have key := iter_ex (R := A × Hp) t.length (fun i (x : Hp × C × List (List D) × Int × Int × Unit) => ∃ H1, x = (H1, .hs H.length 0 t.length, tD t, (t.length : Int), (i : Int), ()) ∧ MuT H.length (fun _ => some true) H1 (.hs H.length 0 t.length) (t.take i ++ List.replicate (t.length - i) []) ∧ Ext H.length H H1) (fun p => ∃ c' H', p = (.one c', H') ∧ MuT H.length (fun _ => some true) H' c' t ∧ Ext H.length H H')
    (F := fun (x : Hp × C × List (List D) × Int × Int × Unit) (rec : (Hp × C × List (List D) × Int × Int × Unit) → Option (A × Hp)) => tables_clone_l0 Φ Ψ f (fun a b c d e => rec (a, b, c, d, e, ())) x.1 x.2.1 x.2.2.1 x.2.2.2.1 x.2.2.2.2.1)
    (fun i x rec hi hx hrec => by
      obtain ⟨H1, rfl, hm, he⟩ := hx
      by_cases hlt : i < t.length
      · have hw := wrap_i (i + 1) (by omega) (by omega)
        have hlt' : (i : Int) < t.length := by omega
        obtain ⟨hr1, hr2⟩ := hr _ (List.getElem_mem hlt)
        have hpl : (t.take i ++ List.replicate (t.length - i) ([] : Row)).length = t.length := by simp; omega
        obtain ⟨p, rc, a1, a2, a3, a4, a5, _⟩ := hm.at he.1 i (by omega)
        have hbut : But rc H1 (H1 ++ [some ⟨List.replicate t[i].length (sC []), true⟩]) := ⟨by simp, fun q hq _ => hGet_push_lt hq _⟩
        have hnew : RwP (some true) (H1 ++ [some ⟨List.replicate t[i].length (sC []), true⟩]) (.hs H1.length 0 t[i].length) (List.replicate t[i].length []) := .inr ⟨H1.length, by simp, by rw [List.map_replicate]; exact hGet_push H1 _⟩
        obtain ⟨H2, b1, b2, b3⟩ := a5 (some true) _ _ _ hbut hnew (fun q hq => by simp only [C.hid, Option.some.injEq] at hq; right; omega)
        rw [upd_const] at b2
        obtain ⟨p', rc', d1, d2, d3, d4, _, d6⟩ := b2.at b3.1 i (by simp; omega)
        rw [a1] at d1
        simp only [Option.some.injEq] at d1
        subst d1
        have hg : ((t.take i ++ List.replicate (t.length - i) ([] : Row)).set i (List.replicate t[i].length []))[i]'(by simp; omega) = List.replicate t[i].length [] := by simp
        rw [hg] at d3
        obtain ⟨q, e1, e2, e3⟩ := d3.copy (r := t[i]) (by simp) (by omega)
        obtain ⟨f1, _⟩ := d6 (some true) q.2 t[i] e2 e3
        rw [upd_const, set_set_mid t i hlt] at f1
        have hs1 : (0 : Int) ≤ (t[i].length : Int) := by omega
        have hs2 : (t[i].length : Int) ≤ 9223372036854775807 := by omega
        have hs3 : 16 * (t[i].length : Int) ≤ 281474976710656 := by omega
        have hA : hAddr (.d (.sl (tD t))) (i : Int) = some (.d (.pp [.sl (rD t[i])])) := hAt_tD t i hlt
        have hL : hLoad H1 (.d (.pp [.sl (rD t[i])])) = some (.d (.sl (rD t[i]))) := rfl
        have hN : hLen (.d (.sl (rD t[i]))) = some t[i].length := by simp [hLen]
        have hokc : C.hok (.hs H.length 0 t.length) = true := rfl
        simp only [tables_clone_l0, xite_decide, hlt', if_true, hA, hL, hN, Option.bind_some, hs1, hs2, hs3, decide_true, Bool.and_self, xif_tt, hPush, Int.toNat_natCast, a1, b1, d2, hCells_rD, e1, hokc, hw]
        exact hrec _ hlt ⟨q.2, rfl, f1, he.trans (b3.trans (e2.ext b3.1 d4))⟩
      · have hlt' : ¬ (i : Int) < t.length := by omega
        obtain rfl : i = t.length := by omega
        rw [List.take_length, Nat.sub_self, List.replicate_zero, List.append_nil] at hm
        have hok : xokR (.one (.hs H.length 0 t.length)) = true := rfl
        simp only [tables_clone_l0, xite_decide, hlt', if_false, hok, xif_tt]
        exact ⟨_, rfl, _, H1, rfl, hm, he⟩) f 0 (H ++ [some ⟨List.replicate t.length (.full []), true⟩], .hs H.length 0 t.length, tD t, (t.length : Int), (0 : Int), ()) (by omega) (by omega)
      ⟨_, rfl, .inr ⟨H.length, _, true, Nat.le_refl _, by simp, hGet_push H _, by simp, fun i r hr => by
        simp only [List.take_zero, List.nil_append, Nat.sub_zero] at hr
        obtain ⟨hlt, rfl⟩ := List.getElem?_replicate.symm ▸ hr |> fun h => by
          rw [List.getElem?_replicate] at hr
          split at hr
          · rename_i hlt; simp only [Option.some.injEq] at hr; exact (⟨hlt, hr.symm⟩ : i < t.length ∧ r = [])
          · cases hr
        exact ⟨.full [], by rw [List.getElem?_replicate, if_pos hlt], .inl ⟨rfl, rfl⟩, (fun e => by cases e), (fun q e => by cases e)⟩, fun i j ra rb q _ ha _ hq => by
        rw [List.getElem?_replicate] at ha
        split at ha
        · simp only [Option.some.injEq] at ha; subst ha; cases hq
        · cases ha⟩, .push (Nat.le_refl _) _⟩
  obtain ⟨_, hr, c', H', rfl, h1, h2⟩ := key
  exact ⟨c', H', hr, h1, h2⟩
theorem tables_clone_Ψ (t : Tab) (ht : t.length ≤ 1000) (hr : ∀ r ∈ t, 1 ≤ r.length ∧ r.length ≤ 1000) (H : Hp) (n : Nat) (hn : 1002 ≤ n) :
    ∃ c' H', (O0 n).Ψ i_tables_clone [aT t] H = some (.one c', H') ∧ MuT H.length (fun _ => some true) H' c' t ∧ Ext H.length H H' := by
  obtain ⟨m, rfl⟩ := nat_succ (n := n) (k := 0) (by omega)
  obtain ⟨c', H', h1, h2, h3⟩ := tables_clone_gen t ht hr H (O0 m).Φ (O0 m).Ψ m (by omega)
  exact ⟨c', H', by rw [tables_clone_runH]; exact h1, h2, h3⟩
end Go.Av
