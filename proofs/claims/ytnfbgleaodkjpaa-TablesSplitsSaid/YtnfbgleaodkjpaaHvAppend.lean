/-
  Append to a slice of one's own, as a step of abstract states. Over any program. No toy.
-/
import Derived.Test.YtnfbgleaodkjpaaHvWrite
set_option linter.all false
namespace Go.Av
open Go.RowKit

theorem length_flat {es : List (List D)} {sz : Nat} (h : ∀ e ∈ es, e.length = sz) : es.flatten.length = es.length * sz := by
  induction es with
  | nil => simp
  | cons e es ih =>
    rw [List.flatten_cons, List.length_append, ih (fun x hx => h x (List.mem_cons_of_mem _ hx)), h e (List.mem_cons_self ..), List.length_cons, Nat.succ_mul]
    omega

theorem RepD.sl_inv {w : World} {W : WSet} {es : List (List D)} {v : Value} {sz : Nat} (h : RepD w W (.sl es) v) (hsz : ∀ e ∈ es, e.length = sz) :
    ∃ (a : Option Addr) (cap : Nat) (vals : List Value), v = .slice a es.length cap ∧ vals.length = es.length * sz ∧ (∀ u ∈ vals, u.oneCell' = true) ∧
      (∀ (k : Nat) (c : D), es.flatten[k]? = some c → RepD w W c (vals.getD k undef)) ∧
      (es = [] ∨ ∃ b off, a = some ⟨b, off, none⟩ ∧ es.length ≤ cap ∧ ∀ k, k < es.length * sz → w.cell? ⟨b, off + k, none⟩ = some (vals.getD k undef) ∧ ¬ W b (off + k)) := by
  cases h with
  | nil a cap => exact ⟨a, cap, [], rfl, by simp, by simp, by simp, .inl rfl⟩
  | sl _ sz' b off cap f hsz' hcap hc hr =>
    have hl := length_flat hsz
    have hg : ∀ k, k < es.length * sz → ((List.range (es.length * sz)).map f).getD k undef = f k := fun k hk => by
      simp [hk]
    refine ⟨some ⟨b, off, none⟩, cap, (List.range (es.length * sz)).map f, rfl, by simp, ?_, ?_, .inr ⟨b, off, rfl, hcap, ?_⟩⟩
    · intro u hu
      obtain ⟨k, hk, rfl⟩ := List.mem_map.1 hu
      have hk' : k < es.flatten.length := by rw [hl]; exact List.mem_range.1 hk
      exact (hr k _ (List.getElem?_eq_getElem hk')).oneCell
    · intro k c hk
      have hk' : k < es.flatten.length := (List.getElem?_eq_some_iff.1 hk).1
      rw [hg k (by rw [← hl]; exact hk')]
      exact hr k c hk
    · intro k hk
      rw [hg k hk]
      exact hc k (by rw [hl]; exact hk)

theorem run_append_zero (P : Program) (w : World) (t ty e : TypeId) (i : TypeInfo) (ht : P.underlying t = some (.slice e)) (hi : P.info? e = some i) (base a : Option Addr) (n cap c : Nat) (hn : n ≤ cap) :
    (Builtin.append_ #[t, t] ty #[.slice base n cap, .slice a 0 c]).run P w = .ok (.slice base n cap) w := by
  cases a <;> cases base <;> simp [Builtin.append_, run_underlying ht, sizeOf, typeInfo, hi, Builtin.lenOf, Builtin.firstCells, loadCells, loadCellsFrom, hn, storeCells]

/-- A new name for a slice that has no room. -/
def St.tok (s : St) (e : TypeId) (len : Nat) : St := { s with n := s.n + 1, tip := upd s.tip s.n (some (e, len)) }
def St.grow (s : St) (k : Nat) (e : TypeId) (len : Nat) : St := { s with tip := upd s.tip k (some (e, len)) }

theorem RepSV.tok {P : Program} {x : Ent} {s : St} {a : Act} {w : World} {es : List (List D)} {v : Value} (h : RepSV P x s a w (.one (.full es)) v) (e : TypeId) :
    RepSV P x (s.tok e es.length) a w (.one (.app es s.n)) v := by
  obtain ⟨h1, h2, E, h3, h4, h5⟩ := h
  cases h5 with
  | one _ _ h5 =>
    obtain ⟨h5, base, rfl⟩ := h5
    let T : Tip := { base := base, len := es.length, cap := es.length, elem := e, sz := 0 }
    let E' : Env := { E with n := E.n + 1, τ := upd E.τ E.n (some T) }
    have hτ : ∀ k T', E'.τ k = some T' → (k = s.n ∧ T' = T) ∨ (k ≠ s.n ∧ E.τ k = some T') := fun k T' hk => by
      have hk : upd E.τ E.n (some T) k = some T' := hk
      by_cases he : k = E.n
      · subst he; simp at hk; exact .inl ⟨h3.n, hk.symm⟩
      · rw [upd_ne _ _ _ _ he] at hk; exact .inr ⟨by rw [← h3.n]; exact he, hk⟩
    have hno : ∀ b o, ¬ T.spare b o := fun b o ⟨off, _, h1, h2⟩ => by simp [T] at h1 h2; omega
    have he : E.le E' := ⟨Nat.le_succ _, fun _ _ => rfl, fun k hk T' hT' => by
      rcases hτ k T' hT' with ⟨h, _⟩ | ⟨_, h⟩
      · have := h3.n; omega
      · exact ⟨T', h, .inl rfl⟩, Nat.le_refl _, fun _ _ => ⟨rfl, rfl⟩⟩
    have hown : ∀ b o, Own (s.tok e es.length) E' b o → Own s E b o := by
      rintro b o (h | ⟨k, T', hk, hs⟩ | h)
      · exact .inl h
      · rcases hτ k T' hk with ⟨_, rfl⟩ | ⟨_, h⟩
        · exact absurd hs (hno b o)
        · exact .inr (.inl ⟨k, T', h, hs⟩)
      · exact .inr (.inr h)
    have kp : Keeps w (Wn x s E) w (Wn x (s.tok e es.length) E') := Keeps.anti fun b o h => h.imp id (hown b o)
    have ht : ∀ k T', E.τ k = some T' → k ≠ s.n := fun k T' hk => by have := (h3.tlt k T' hk).1; omega
    refine ⟨h1, h2, E', ?_, fun i => (h4 i).keep kp he, .one _ _ ⟨h5.keep kp, ?_, ?_⟩⟩
    · exact {
        fr := h3.fr
        n := by show E.n + 1 = s.n + 1; rw [h3.n]
        le := h3.le.trans he
        box := fun id c hi => ⟨Nat.lt_succ_of_lt (h3.box id c hi).1, (h3.box id c hi).2.keep rfl kp he⟩
        inj := h3.inj
        tip := fun k => by
          show upd s.tip s.n _ k = (upd E.τ E.n (some T) k).map _
          rw [h3.n]
          by_cases hk : k = s.n
          · subst hk; simp [T]
          · rw [upd_ne _ _ _ _ hk, upd_ne _ _ _ _ hk]; exact h3.tip k
        tlt := fun k T' hk => by
          rcases hτ k T' hk with ⟨rfl, rfl⟩ | ⟨_, h⟩
          · exact ⟨Nat.lt_succ_self _, Nat.le_refl _⟩
          · exact ⟨Nat.lt_succ_of_lt (h3.tlt k T' h).1, (h3.tlt k T' h).2⟩
        trow := fun k T' hk hl => by
          rcases hτ k T' hk with ⟨rfl, rfl⟩ | ⟨_, h⟩
          · exact absurd hl (Nat.lt_irrefl _)
          · exact h3.trow k T' h hl
        tbox := fun k T' id c b o hk hi hs => by
          rcases hτ k T' hk with ⟨rfl, rfl⟩ | ⟨_, h⟩
          · exact absurd hs (hno b o)
          · exact h3.tbox k T' id c b o h hi hs
        ttip := fun k k' T1 T2 b o o' hk hk' hs hs' => by
          rcases hτ k T1 hk with ⟨rfl, rfl⟩ | ⟨_, h⟩
          · exact absurd hs (hno b o)
          · rcases hτ k' T2 hk' with ⟨rfl, rfl⟩ | ⟨_, h'⟩
            · exact absurd hs' (hno b o')
            · exact h3.ttip k k' T1 T2 b o o' h h' hs hs'
        fresh := fun b o ho => h3.fresh b o (hown b o ho)
        ob := fun id o hi => by
          obtain ⟨p1, p2, j, p3, p4⟩ := h3.ob id o hi
          exact ⟨Nat.lt_succ_of_lt p1, p2, j, p3, p4.keep kp⟩
        oinj := h3.oinj
        hp := h3.hp.keep rfl rfl rfl rfl (fun _ _ _ => rfl) kp (fun _ _ _ h => h.keep (Keeps.refl _ _) he) h3.hp.box (fun k' o' j T' b p hk' hj hs => by
          rcases hτ j T' hj with ⟨rfl, rfl⟩ | ⟨_, h⟩
          · exact absurd hs (hno b p)
          · exact h3.hp.tip k' o' j T' b p hk' h hs) }
    · show s.n < E.n + 1; rw [h3.n]; omega
    · intro T' hT'
      rcases hτ s.n T' hT' with ⟨_, rfl⟩ | ⟨h, _⟩
      · exact ⟨Nat.le_refl _, fun _ => rfl⟩
      · exact absurd rfl h

theorem getD_flat_append (es xs : List (List D)) (k : Nat) (n : Nat) (hn : es.flatten.length = n) : (es ++ xs).flatten[k]? = if k < n then es.flatten[k]? else xs.flatten[k - n]? := by
  rw [List.flatten_append, List.getElem?_append, hn]

theorem RepSV.append {P : Program} {x : Ent} (hx : x.ok) {s : St} {a : Act} {w : World} {es xs : List (List D)} {k : Nat} {v u : Value}
    (h : RepSV P x s a w (.one (.app es k)) v) (hu : ∀ E, RepE P x s w E → (∀ i, RepA w (Wn x s E) E (s.t i) (a.tmps.getD i undef)) → RepD w (Wn x s E) (.sl xs) u)
    (t ty e : TypeId) (i : TypeInfo) (z : Value) (ht : P.underlying t = some (.slice e)) (hi : P.info? e = some i) (hz : i.zero = some z) (hzs : z.cells.size = i.size) (hsz : 0 < i.size)
    (hk : s.tip k = some (e, es.length)) (he : ∀ y ∈ es, y.length = i.size) (hxs : ∀ y ∈ xs, y.length = i.size) (hb : (es.length + xs.length) * i.bytes ≤ 140737488355328)
    (h63 : es.length + xs.length ≤ maxLen) :
    ∃ v' w', (Builtin.append_ #[t, t] ty #[v, u]).run P w = .ok v' w' ∧ RepSV P x (s.grow k e (es.length + xs.length)) a w' (.one (.app (es ++ xs) k)) v' := by
  obtain ⟨h1, h2, E, h3, h4, h5⟩ := h
  have hu := hu E h3 h4
  cases h5 with
  | one _ _ h5 =>
  obtain ⟨h5, hkn, htie⟩ := h5
  have h63' : es.length + xs.length ≤ 9223372036854775807 := by simp only [maxLen] at h63; omega
  -- the token
  obtain ⟨T, hT, hTe⟩ : ∃ T, E.τ k = some T ∧ T.elem = e ∧ T.len = es.length := by
    have := h3.tip k
    rw [hk] at this
    cases hT : E.τ k with
    | none => rw [hT] at this; simp at this
    | some T => rw [hT] at this; simp at this; exact ⟨T, rfl, this.1.symm, this.2.symm⟩
  obtain ⟨hTe, hTl⟩ := hTe
  have hv : v = .slice T.base T.len T.cap := (htie T hT).2 hTl.symm
  have hTc := (h3.tlt k T hT).2
  obtain ⟨ua, uc, uvals, hu1, hul, hu1c, hur, huc⟩ := hu.sl_inv hxs
  obtain ⟨va, vc, vvals, hv1, hvl, hv1c, hvr, hvc⟩ := h5.sl_inv he
  have hes : es.flatten.length = es.length * i.size := length_flat he
  have hxl : xs.flatten.length = xs.length * i.size := length_flat hxs
  rw [hv] at hv1
  have hbase : T.base = va ∧ T.cap = vc := by simp only [Value.slice.injEq] at hv1; exact ⟨hv1.1, hv1.2.2⟩
  subst hu1
  subst hv
  -- what a new token with a longer slice leaves
  by_cases hm : xs = []
  · subst hm
    refine ⟨_, _, run_append_zero P w t ty e i ht hi T.base ua T.len T.cap uc hTc, ?_⟩
    have hs : s.grow k e (es.length + ([] : List (List D)).length) = s := by
      show ({ s with tip := upd s.tip k (some (e, es.length + 0)) } : St) = s
      have : upd s.tip k (some (e, es.length + 0)) = s.tip := by
        funext j
        by_cases hj : j = k
        · subst hj; simp [hk]
        · rw [upd_ne _ _ _ _ hj]
      rw [this]
    rw [hs, List.append_nil]
    exact ⟨h1, h2, E, h3, h4, .one _ _ ⟨h5, hkn, htie⟩⟩
  · have hxpos : 0 < xs.length := List.length_pos_iff.2 hm
    obtain ⟨ub, uo, rfl, huc', huk⟩ := huc.resolve_left hm
    have hnews : ∀ j y, uvals[j]? = some y → w.cell? ((⟨ub, uo, none⟩ : Addr).add j) = some y := fun j y hj => by
      have hjl : j < xs.length * i.size := by rw [← hul]; exact (List.getElem?_eq_some_iff.1 hj).1
      have hadd : (⟨ub, uo, none⟩ : Addr).add j = ⟨ub, uo + j, none⟩ := by unfold Addr.add; split <;> simp_all
      rw [hadd, (huk j hjl).1, List.getD_eq_getElem?_getD, hj]; rfl
    have hmul : (es.length + xs.length) * i.size = es.length * i.size + xs.length * i.size := Nat.add_mul ..
    -- the new slice's elements
    have hlen : ∀ y ∈ es ++ xs, y.length = i.size := fun y hy => (List.mem_append.1 hy).elim (he y) (hxs y)
    -- one closing argument for both ways
    have finish : ∀ (w' : World) (g cap' : Nat) (cur : Array Value), w'.heap[g]? = some (.cells cur e (0, 0)) → cur.size = cap' * i.size → es.length + xs.length ≤ cap' → cap' ≤ maxLen →
        (∀ j, j < es.length * i.size → cur.getD j undef = vvals.getD j undef) → (∀ j, j < xs.length * i.size → cur.getD (es.length * i.size + j) undef = uvals.getD j undef) →
        Fr x w' → (∀ b, b < w.heap.size → b ≠ g → w'.heap[b]? = w.heap[b]?) →
        (∀ b o y, b = g → w.cell? ⟨b, o, none⟩ = some y → ¬ Wn x s E b o → w'.cell? ⟨b, o, none⟩ = some y ∧ o < (es.length + xs.length) * i.size) →
        (∀ id o, s.o id = some o → E.β id ≠ g) → (∀ id cs, s.h id = some cs → E.β id ≠ g) → (∀ k' T' b o, k' ≠ k → E.τ k' = some T' → T'.spare b o → b ≠ g) →
        (∀ o, x.w0.heap.size ≤ g ∨ ¬ (o < cap' * i.size) ∨ (es.length * i.size ≤ o → x.Own0 g o)) →
        (∀ o, o < (es.length + xs.length) * i.size → ¬ x.Wf g o) → (∀ k' o', s.H[k']? = some (some o') → E.γ k' ≠ g) →
        RepSV P x (s.grow k e (es.length + xs.length)) a w' (.one (.app (es ++ xs) k)) (.slice (some ⟨g, 0, none⟩) (es.length + xs.length) cap') := by
      intro w' g cap' cur hg hcur hle hcm hold hnew hfr hoth hgc hobn hbox htip hfresh hwf hobH
      let T' : Tip := { base := some ⟨g, 0, none⟩, len := es.length + xs.length, cap := cap', elem := e, sz := i.size }
      let E' : Env := { E with τ := upd E.τ k (some T') }
      have hτ : ∀ j T2, E'.τ j = some T2 → (j = k ∧ T2 = T') ∨ (j ≠ k ∧ E.τ j = some T2) := fun j T2 hj => by
        have hj : upd E.τ k (some T') j = some T2 := hj
        by_cases hjk : j = k
        · subst hjk; simp at hj; exact .inl ⟨rfl, hj.symm⟩
        · rw [upd_ne _ _ _ _ hjk] at hj; exact .inr ⟨hjk, hj⟩
      have hle' : E.le E' := ⟨Nat.le_refl _, fun _ _ => rfl, fun j _ T2 hj => by
        rcases hτ j T2 hj with ⟨rfl, rfl⟩ | ⟨_, h⟩
        · exact ⟨T, hT, .inr (by show T.len < es.length + xs.length; omega)⟩
        · exact ⟨T2, h, .inl rfl⟩, Nat.le_refl _, fun _ _ => ⟨rfl, rfl⟩⟩
      have hsp : ∀ b o, T'.spare b o → b = g ∧ (es.length + xs.length) * i.size ≤ o ∧ o < cap' * i.size := by
        rintro b o ⟨off, h1, h2, h3⟩
        simp only [T', Option.some.injEq, Addr.mk.injEq] at h1 h2 h3
        obtain ⟨rfl, rfl, _⟩ := h1
        exact ⟨rfl, by simpa using h2, by simpa using h3⟩
      have hown : ∀ b o, Own (s.grow k e (es.length + xs.length)) E' b o → (Own s E b o ∧ b ≠ g) ∨ (b = g ∧ (es.length + xs.length) * i.size ≤ o ∧ o < cap' * i.size) := by
        rintro b o (⟨id, cs, hid, rfl⟩ | ⟨j, T2, hj, hs⟩ | ⟨k', o', hk', rfl⟩)
        · exact .inl ⟨.inl ⟨id, cs, hid, rfl⟩, hbox id cs hid⟩
        · rcases hτ j T2 hj with ⟨rfl, rfl⟩ | ⟨hjk, h⟩
          · exact .inr (hsp b o hs)
          · exact .inl ⟨.inr (.inl ⟨j, T2, h, hs⟩), htip j T2 b o hjk h hs⟩
        · exact .inl ⟨.inr (.inr ⟨k', o', hk', rfl⟩), hobH k' o' hk'⟩
      have kp : Keeps w (Wn x s E) w' (Wn x (s.grow k e (es.length + xs.length)) E') := by
        intro b o y hc hW
        by_cases hbg : b = g
        · obtain ⟨h1, h2⟩ := hgc b o y hbg hc hW
          refine ⟨h1, ?_⟩
          rintro (hf | ho)
          · exact hW (.inl hf)
          · rcases hown b o ho with ⟨_, hne⟩ | ⟨_, h, _⟩
            · exact hne hbg
            · omega
        · refine ⟨?_, ?_⟩
          · rw [World.cell?_of_block (w := w) (hoth b (World.block_lt_of_cell? w _ hc) hbg)]; exact hc
          · rintro (hf | ho)
            · exact hW (.inl hf)
            · rcases hown b o ho with ⟨ho, _⟩ | ⟨hb, _⟩
              · exact hW (.inr ho)
              · exact hbg hb
      refine ⟨h1, h2, E', ?_, fun j => (h4 j).keep kp hle', .one _ _ ⟨?_, hkn, ?_⟩⟩
      · exact {
          fr := hfr
          n := h3.n
          le := h3.le.trans hle'
          box := fun id cs hid => ⟨(h3.box id cs hid).1, (h3.box id cs hid).2.keep (hoth _ (h3.box id cs hid).2.lt (hbox id cs hid)) kp hle'⟩
          inj := h3.inj
          tip := fun j => by
            show upd s.tip k _ j = (upd E.τ k (some T') j).map _
            by_cases hj : j = k
            · subst hj; simp [T']
            · rw [upd_ne _ _ _ _ hj, upd_ne _ _ _ _ hj]; exact h3.tip j
          tlt := fun j T2 hj => by
            rcases hτ j T2 hj with ⟨rfl, rfl⟩ | ⟨_, h⟩
            · exact ⟨(h3.tlt j T hT).1, hle⟩
            · exact h3.tlt j T2 h
          trow := fun j T2 hj hl => by
            rcases hτ j T2 hj with ⟨rfl, rfl⟩ | ⟨hjk, h⟩
            · exact ⟨g, cur, i, rfl, hg, hcur, hi, rfl, hsz, hcm⟩
            · obtain ⟨gg, cur2, i2, g1, g2, g3, g4, g5, g6, g7⟩ := h3.trow j T2 h hl
              have hne : gg ≠ g := htip j T2 gg (T2.len * T2.sz) hjk h ⟨0, g1, by omega, by
                have := Nat.mul_lt_mul_of_lt_of_le hl (Nat.le_refl T2.sz) g6; omega⟩
              exact ⟨gg, cur2, i2, g1, by rw [hoth gg (lt_of_heap g2) hne]; exact g2, g3, g4, g5, g6, g7⟩
          tbox := fun j T2 id cs b o hj hid hs => by
            rcases hτ j T2 hj with ⟨rfl, rfl⟩ | ⟨_, h⟩
            · rw [(hsp b o hs).1]; exact hbox id cs hid
            · exact h3.tbox j T2 id cs b o h hid hs
          ttip := fun j j' T1 T2 b o o' hj hj' hs hs' => by
            rcases hτ j T1 hj with ⟨rfl, rfl⟩ | ⟨hjk, h⟩ <;> rcases hτ j' T2 hj' with ⟨rfl, rfl⟩ | ⟨hjk', h'⟩
            · rfl
            · exact absurd (hsp b o hs).1 (htip j' T2 b o' hjk' h' hs')
            · exact absurd (hsp b o' hs').1 (htip j T1 b o hjk h hs)
            · exact h3.ttip j j' T1 T2 b o o' h h' hs hs'
          fresh := fun b o ho => by
            rcases hown b o ho with ⟨ho, _⟩ | ⟨rfl, ho1, ho2⟩
            · exact h3.fresh b o ho
            · rcases hfresh o with h | h | h
              · exact .inl h
              · exact absurd ho2 h
              · exact .inr (h (by omega))
          ob := fun id o hid => by
            obtain ⟨p1, p2, j, p3, p4⟩ := h3.ob id o hid
            exact ⟨p1, p2, j, by rw [hoth _ (lt_of_heap p3) (hobn id o hid)]; exact p3, p4.keep kp⟩
          oinj := h3.oinj
          hp := h3.hp.keep rfl rfl rfl rfl (fun k' o' hk' => hoth _ (h3.hlt hk') (hobH k' o' hk')) kp (fun _ _ _ h => h.keep (Keeps.refl _ _) hle') h3.hp.box (fun k' o' j T2 b p hk' hj hs => by
            rcases hτ j T2 hj with ⟨rfl, rfl⟩ | ⟨_, h⟩
            · rw [(hsp b p hs).1]; exact hobH k' o' hk'
            · exact h3.hp.tip k' o' j T2 b p hk' h hs) }
      · have hne : ¬ (es ++ xs) = [] := by simp [hm]
        have hlf : (es ++ xs).flatten.length = (es.length + xs.length) * i.size := by rw [length_flat hlen, List.length_append]
        have hll : (es ++ xs).length = es.length + xs.length := List.length_append
        rw [← hll]
        have hle2 := Nat.mul_le_mul_right i.size hle
        refine RepD.sl (es ++ xs) i.size g 0 cap' (fun j => cur.getD j undef) hlen (by rw [hll]; exact hle) (fun j hj => ?_) (fun j c hj => ?_)
        · rw [hlf] at hj
          refine ⟨?_, ?_⟩
          · rw [cell_of_row w' g (0 + j) cur e (0, 0) hg, Nat.zero_add]
            have : j < cur.size := by omega
            simp [this]
          · rw [Nat.zero_add]
            rintro (hf | ho)
            · exact hwf j hj hf
            · rcases hown g j ho with ⟨_, h⟩ | ⟨_, h, _⟩
              · exact h rfl
              · omega
        · rw [getD_flat_append es xs j _ hes] at hj
          split at hj
          · rename_i hlt
            show RepD _ _ c (cur.getD j undef)
            rw [hold j hlt]
            exact (hvr j c hj).keep kp
          · rename_i hge
            have hjx : j - es.length * i.size < xs.length * i.size := by rw [← hxl]; exact (List.getElem?_eq_some_iff.1 hj).1
            have := hnew _ hjx
            rw [show es.length * i.size + (j - es.length * i.size) = j by omega] at this
            show RepD _ _ c (cur.getD j undef)
            rw [this]
            exact (hur _ c hj).keep kp
      · intro T2 hT2
        rcases hτ k T2 hT2 with ⟨_, rfl⟩ | ⟨h, _⟩
        · exact ⟨by simp [T'], fun _ => rfl⟩
        · exact absurd rfl h
    by_cases hroom : T.len + xs.length ≤ T.cap
    · obtain ⟨g, cur, i2, g1, g2, g3, g4, g5, g6, g7⟩ := h3.trow k T hT (by omega)
      rw [hTe] at g2 g4
      rw [hi] at g4
      cases g4
      rw [← g5] at g3
      have hfit : T.len * i.size + uvals.length ≤ cur.size := by
        rw [hul, g3, ← Nat.add_mul]; exact Nat.mul_le_mul_right _ hroom
      have hr := run_append_room (P := P) w t ty e i ht hi g T.len T.cap cur g2 ⟨ub, uo, none⟩ xs.length uc uvals hul hnews hu1c hroom hfit
      have hspare : ∀ o, T.len * i.size ≤ o → o < T.cap * i.size → T.spare g o := fun o ho1 ho2 => ⟨0, g1, by rw [← g5]; omega, by rw [← g5]; omega⟩
      have hcells : ∀ j, j < es.length * i.size → cur.getD j undef = vvals.getD j undef ∧ ¬ Wn x s E g j := fun j hj => by
        have hne : es ≠ [] := fun h => by subst h; simp at hj
        obtain ⟨b, off, hb1, _, hb2⟩ := hvc.resolve_left hne
        rw [← hbase.1, g1] at hb1
        simp only [Option.some.injEq, Addr.mk.injEq] at hb1
        obtain ⟨rfl, rfl, _⟩ := hb1
        obtain ⟨hc1, hc2⟩ := hb2 j hj
        rw [Nat.zero_add] at hc1 hc2
        rw [cell_of_row w g j cur e (0, 0) g2] at hc1
        exact ⟨by rw [Array.getD_eq_getD_getElem?, hc1]; rfl, hc2⟩
      refine ⟨_, _, by rw [g1]; exact hr, ?_⟩
      rw [hTl] at *
      have hcs : T.cap * i.size = cur.size := g3.symm
      have hle2 := Nat.mul_le_mul_right i.size hroom
      have hne : (cur.toList.take (es.length * i.size) ++ uvals ++ cur.toList.drop (es.length * i.size + uvals.length)).toArray.size = cur.size := by
        simp only [List.size_toArray, List.length_append, List.length_take, List.length_drop, Array.length_toList]; omega
      have hget : ∀ j, (cur.toList.take (es.length * i.size) ++ uvals ++ cur.toList.drop (es.length * i.size + uvals.length)).toArray[j]? =
          if j < es.length * i.size then cur[j]? else if j < es.length * i.size + uvals.length then uvals[j - es.length * i.size]? else cur[j]? := fun j => by
        rw [List.getElem?_toArray]
        have := getElem?_rpl cur.toList (es.length * i.size) uvals (by simpa using hfit) j
        unfold rpl at this
        rw [this]
        simp
      have hownlt : g < w.heap.size := lt_of_heap g2
      refine finish _ g T.cap _ (setRow_heap w g cur _ e (0, 0) g2) (by rw [hne, g3]) hroom g7 ?_ ?_ ?_ (fun b hb hbg => setRow_other w g b _ hbg) ?_ (fun id o hid => h3.ob_ne hid g2) ?_ ?_ ?_ ?_ (fun k' o' hk' => h3.hp.tip k' o' k T g (es.length * i.size) hk' hT (hspare _ (Nat.le_refl _) (Nat.mul_lt_mul_of_lt_of_le (by omega) (Nat.le_refl _) hsz)))
      · intro j hj
        rw [Array.getD_eq_getD_getElem?, hget, if_pos hj, ← Array.getD_eq_getD_getElem?]
        exact (hcells j hj).1
      · intro j hj
        rw [Array.getD_eq_getD_getElem?, hget, if_neg (by omega), if_pos (by omega), show es.length * i.size + j - es.length * i.size = j by omega, ← List.getD_eq_getElem?_getD]
      · have hfr := h3.fr
        refine ⟨hfr.os, hfr.tape, hfr.output, by simpa [World.setRow] using hfr.size, fun b hb ho => ?_, fun b o y hb ho hc => ?_⟩
        · have hbg : b ≠ g := fun e => by
            subst e
            have hlt : es.length * i.size < T.cap * i.size := Nat.mul_lt_mul_of_lt_of_le (by omega) (Nat.le_refl _) hsz
            rcases h3.fresh b (es.length * i.size) (.inr (.inl ⟨k, T, hT, hspare _ (Nat.le_refl _) hlt⟩)) with h | h
            · omega
            · exact ho _ h
          rw [setRow_other w g b _ hbg]; exact hfr.block b hb ho
        · have hc' := hfr.cell b o y hb ho hc
          by_cases hbg : b = g
          · subst hbg
            rw [cell_of_row _ b o _ e (0, 0) (setRow_heap w b cur _ e (0, 0) g2), hget]
            rw [cell_of_row w b o cur e (0, 0) g2] at hc'
            have hlt : o < cur.size := (Array.getElem?_eq_some_iff.1 hc').1
            by_cases ho1 : o < es.length * i.size
            · rw [if_pos ho1]; exact hc'
            · rw [if_neg ho1]
              exfalso
              rcases h3.fresh b o (.inr (.inl ⟨k, T, hT, hspare o (by omega) (by omega)⟩)) with h | h
              · omega
              · exact ho h
          · rw [cell_setRow_other w g _ _ hbg]; exact hc'
      · rintro b o y rfl hc hW
        rw [cell_of_row w b o cur e (0, 0) g2] at hc
        have hlt : o < cur.size := (Array.getElem?_eq_some_iff.1 hc).1
        have ho1 : o < es.length * i.size := by
          rcases Nat.lt_or_ge o (es.length * i.size) with h | h
          · exact h
          · exact absurd (.inr (.inr (.inl ⟨k, T, hT, hspare o h (by omega)⟩))) hW
        refine ⟨?_, by omega⟩
        rw [cell_of_row _ b o _ e (0, 0) (setRow_heap w b cur _ e (0, 0) g2), hget, if_pos ho1]; exact hc
      · intro id cs hid
        have hlt : es.length * i.size < T.cap * i.size := Nat.mul_lt_mul_of_lt_of_le (by omega) (Nat.le_refl _) hsz
        exact h3.tbox k T id cs g _ hT hid (hspare _ (Nat.le_refl _) hlt)
      · rintro j T2 b o hjk hj hs rfl
        have hlt : es.length * i.size < T.cap * i.size := Nat.mul_lt_mul_of_lt_of_le (by omega) (Nat.le_refl _) hsz
        exact hjk (h3.ttip j k T2 T b o _ hj hT hs (hspare _ (Nat.le_refl _) hlt))
      · intro o
        rcases Nat.lt_or_ge o (T.cap * i.size) with h | h
        · rcases Nat.lt_or_ge o (es.length * i.size) with h' | h'
          · exact .inr (.inr fun h'' => by omega)
          · rcases h3.fresh g o (.inr (.inl ⟨k, T, hT, hspare o h' h⟩)) with h'' | h''
            · exact .inl h''
            · exact .inr (.inr fun _ => h'')
        · exact .inr (.inl (by omega))
      · intro o ho hf
        rcases Nat.lt_or_ge o (es.length * i.size) with h' | h'
        · exact (hcells o h').2 (.inl hf)
        · rcases h3.fresh g o (.inr (.inl ⟨k, T, hT, hspare o h' (by omega)⟩)) with h'' | h''
          · have := hx.wf g o hf; omega
          · exact hx.apart g o h'' hf
    · have hge := grownCap_ge w (es.length + xs.length) T.cap e
      have hcm : grownCap w (es.length + xs.length) T.cap e ≤ maxLen := grownCap_le_maxLen w (es.length + xs.length) T.cap e h63
      have hmm : xs.length * i.bytes ≤ (es.length + xs.length) * i.bytes := Nat.mul_le_mul_right _ (by omega)
      have hrun : (Builtin.append_ #[t, t] ty #[.slice T.base T.len T.cap, .slice (some ⟨ub, uo, none⟩) xs.length uc]).run P w =
          .ok (.slice (some ⟨w.heap.size, 0, none⟩) (es.length + xs.length) (grownCap w (es.length + xs.length) T.cap e))
            (w.drew.alloc (.cells (vvals.toArray ++ uvals.toArray ++ Builtin.zeroCells z.cells (grownCap w (es.length + xs.length) T.cap e - (es.length + xs.length))) e)) := by
        cases hTb : T.base with
        | none =>
          have hen : es = [] := by
            rcases hvc with h | ⟨b, off, h, _⟩
            · exact h
            · rw [← hbase.1, hTb] at h; cases h
          subst hen
          have hcap : T.cap = 0 := by
            rcases Nat.lt_or_ge T.len T.cap with h | h
            · obtain ⟨gg, _, _, hb, _⟩ := h3.trow k T hT h; rw [hTb] at hb; cases hb
            · simp at hTl; omega
          have hl0 : vvals = [] := List.eq_nil_of_length_eq_zero (by simpa using hvl)
          rw [hTl, hcap, hl0]
          simp only [List.length_nil, Nat.zero_add, Array.empty_append]
          exact run_append_nil (P := P) w t ty e i z ht hi hz ⟨ub, uo, none⟩ xs.length uc uvals hul hnews hxpos (by omega) (by omega)
        | some b =>
          have holds : ∀ j y, vvals[j]? = some y → w.cell? (b.add j) = some y := fun j y hj => by
            have hjl : j < es.length * i.size := by rw [← hvl]; exact (List.getElem?_eq_some_iff.1 hj).1
            have hne : es ≠ [] := fun h => by subst h; simp at hjl
            obtain ⟨vb, vo, hb1, _, hb2⟩ := hvc.resolve_left hne
            rw [← hbase.1, hTb] at hb1
            cases hb1
            have hadd : (⟨vb, vo, none⟩ : Addr).add j = ⟨vb, vo + j, none⟩ := by unfold Addr.add; split <;> simp_all
            rw [hadd, (hb2 j hjl).1, List.getD_eq_getElem?_getD, hj]; rfl
          rw [hTl]
          exact run_append_grow (P := P) w t ty e i z ht hi hz b es.length T.cap vvals hvl holds ⟨ub, uo, none⟩ xs.length uc uvals hul hnews (by omega) (by omega) (growslice_fits (by omega) hb)
      refine ⟨_, _, hrun, ?_⟩
      have gr : Grew w (w.drew.alloc (.cells (vvals.toArray ++ uvals.toArray ++ Builtin.zeroCells z.cells (grownCap w (es.length + xs.length) T.cap e - (es.length + xs.length))) e)) :=
        (Grew.drew w).trans (Grew.alloc w.drew _)
      have hsz2 : (vvals.toArray ++ uvals.toArray ++ Builtin.zeroCells z.cells (grownCap w (es.length + xs.length) T.cap e - (es.length + xs.length))).size = grownCap w (es.length + xs.length) T.cap e * i.size := by
        simp only [Array.size_append, List.size_toArray, size_zeroCells, hzs, hvl, hul, ← Nat.add_mul]
        congr 1
        omega
      refine finish _ w.heap.size (grownCap w (es.length + xs.length) T.cap e) _ (heap_alloc_new w.drew _) hsz2 hge hcm ?_ ?_ (h3.fr.grew gr) (fun b hb _ => gr.block b hb) ?_ (fun id o hid => by obtain ⟨_, _, j, p3, _⟩ := h3.ob id o hid; have := lt_of_heap p3; omega) ?_ ?_ ?_ ?_ (fun k' o' hk' => by have := h3.hlt hk'; omega)
      · intro j hj
        have h1 : j < vvals.toArray.size := by simp; omega
        have h2 : j < (vvals.toArray ++ uvals.toArray).size := by simp; omega
        rw [Array.getD_eq_getD_getElem?, Array.getElem?_append_left h2, Array.getElem?_append_left h1, List.getElem?_toArray, ← List.getD_eq_getElem?_getD]
      · intro j hj
        have h1 : vvals.toArray.size ≤ es.length * i.size + j := by simp; omega
        have h2 : es.length * i.size + j < (vvals.toArray ++ uvals.toArray).size := by simp; omega
        have h3 : es.length * i.size + j - vvals.toArray.size = j := by simp; omega
        rw [Array.getD_eq_getD_getElem?, Array.getElem?_append_left h2, Array.getElem?_append_right h1, h3, List.getElem?_toArray, ← List.getD_eq_getElem?_getD]
      · rintro b o y rfl hc _
        exact absurd (World.block_lt_of_cell? w _ hc) (Nat.lt_irrefl _)
      · intro id cs hid; have := (h3.box id cs hid).2.lt; omega
      · rintro j T2 b o _ hj hs rfl
        have := h3.own_lt (b := w.heap.size) (o := o) (.inr (.inl ⟨j, T2, hj, hs⟩))
        omega
      · intro o; exact .inl h3.fr.size
      · intro o _ hf; have := hx.wf _ o hf; have := h3.fr.size; omega

end Go.Av
