/-
  Arguments that read as data are pure data of their types; a law's statement, from what its function gives. Over any program. No toy.
-/
import Derived.Test.YtnfbgleaodkjpaaHvX7
import Derived.ProofKit
import Derived.ChangeSame
set_option linter.all false
namespace Go.Av
open Go.RowKit Go.ChangeShapes Go.WideShapes Go.ChangeAt

def NoW : WSet := fun _ _ => False

/-- Cells, one by one. -/
inductive RDs (w : World) : List D → List Value → Prop where
  | nil : RDs w [] []
  | cons {d : D} {v : Value} {ds : List D} {vs : List Value} (h : RepD w NoW d v) (hs : RDs w ds vs) : RDs w (d :: ds) (v :: vs)
theorem RDs.len {w : World} {ds : List D} {vs : List Value} (h : RDs w ds vs) : ds.length = vs.length := by induction h <;> simp_all
theorem RDs.get {w : World} {ds : List D} {vs : List Value} (h : RDs w ds vs) : ∀ (k : Nat) (d : D), ds[k]? = some d → ∃ v, vs[k]? = some v ∧ RepD w NoW d v := by
  induction h with
  | nil => intro k d h; simp at h
  | cons h _ ih =>
    intro k d hk
    cases k with
    | zero => simp at hk; subst hk; exact ⟨_, rfl, h⟩
    | succ k => simpa using ih k d (by simpa using hk)
theorem RDs.append {w : World} {ds es : List D} {vs us : List Value} (h : RDs w ds vs) (k : RDs w es us) : RDs w (ds ++ es) (vs ++ us) := by
  induction h with
  | nil => exact k
  | cons h _ ih => exact .cons h ih

/-- Pure cells of a type. -/
def WT (T : TT) : Nat → TypeId → List D → Prop
  | 0, _, _ => False
  | n + 1, t, ds => match T t with
    | none => False
    | some i => match i.kind with
      | .int k => ∃ x, ds = [.v (.int k x)] ∧ k.min ≤ x ∧ x ≤ k.max
      | .bool => ∃ b, ds = [.v (.bool b)]
      | .str => ∃ l, ds = [.s l] ∧ l.length ≤ maxLen
      | .slice e => ∃ es, ds = [.sl es] ∧ es.length ≤ maxLen ∧ ∀ c ∈ es, WT T n e c
      | .struct fs => ∃ dss : List (List D), ds = dss.flatten ∧ dss.length = fs.length ∧ ∀ (i : Nat) (f : Nat × TypeId × Nat) (c : List D), fs[i]? = some f → dss[i]? = some c → WT T n f.2.1 c
      | _ => False

def contig : Nat → List (Nat × TypeId × Nat) → Option Nat
  | o, [] => some o
  | o, f :: fs => if f.1 = o then contig (o + f.2.2) fs else none

/-- The types that are reached: all known. -/
def closedT (T : TT) (S : List TypeId) : Bool := S.all fun t => match T t with
  | some i => (match i.kind with
    | .slice e => S.contains e && (match T e with | some ei => decide (0 < ei.sz) | none => false)
    | .struct fs => (contig 0 fs == some i.sz) && fs.all fun f => S.contains f.2.1 && (match T f.2.1 with | some fi => fi.sz == f.2.2 | none => false)
    | .arr _ _ | .map | .other => false
    | _ => i.sz == 1)
  | none => false

theorem tbool_und {P : Program} {t : TypeId} (h : tbool P t = true) : P.underlying t = some .bool := by
  unfold tbool at h; split at h
  · assumption
  · cases h
theorem tstr_und' {P : Program} {t : TypeId} (h : tstr P t = true) : P.underlying t = some .string := by
  unfold tstr at h; split at h
  · assumption
  · cases h
theorem tsz_cells {P : Program} {t : TypeId} {n : Nat} (h : tsz P t = some n) : P.cellsOf t = n := by
  unfold tsz at h; unfold Program.cellsOf; rw [h]; rfl
theorem flat_get {α : Type} (sz : Nat) : ∀ (es : List (List α)), (∀ e ∈ es, e.length = sz) → ∀ (i j : Nat), j < sz → es.flatten[i * sz + j]? = (es[i]?).bind (·[j]?)
  | [], _, i, j, _ => by simp
  | e :: es, h, i, j, hj => by
    have he : e.length = sz := h e (List.mem_cons_self ..)
    have hes := fun x hx => h x (List.mem_cons_of_mem _ hx)
    rw [List.flatten_cons]
    cases i with
    | zero => rw [List.getElem?_append_left (by omega)]; simp
    | succ i =>
      rw [List.getElem?_append_right (by rw [he, Nat.succ_mul]; omega), he, show (i + 1) * sz + j - sz = i * sz + j by rw [Nat.succ_mul]; omega, flat_get sz es hes i j hj]
      simp
theorem flat_len {α : Type} (sz : Nat) : ∀ (es : List (List α)), (∀ e ∈ es, e.length = sz) → es.flatten.length = es.length * sz
  | [], _ => by simp
  | e :: es, h => by
    rw [List.flatten_cons, List.length_append, h e (List.mem_cons_self ..), flat_len sz es fun x hx => h x (List.mem_cons_of_mem _ hx), List.length_cons, Nat.succ_mul]; omega

section
variable {H : Type} {enc : TypeId × Value → H} {P : Program} {w : World} {base : Nat} {spare : Nat → Bool} {held : Bool} {T : TT} (hT : TOk P T) {S : List TypeId} (hS : closedT T S = true)
include hT hS

omit hT hS in
theorem open_pieces {fuel : Nat} {cs : List Value} (ih : ∀ t cs d ps, t ∈ S → DataW.trod enc P w base spare held fuel t cs = some (d, ps) → ∃ ds, RDs w ds cs ∧ WT T fuel t ds) :
    ∀ (fl : List Field) (fs : List (Nat × TypeId × Nat)) (o total : Nat) (xs : List (DataW H × List MemPlace)), fl.map (fun f => (f.offset, f.type)) = fs.map (fun f => (f.1, f.2.1)) → contig o fs = some total →
      (∀ f ∈ fs, f.2.1 ∈ S ∧ P.cellsOf f.2.1 = f.2.2) → (fl.mapM fun f => DataW.trod enc P w base spare held fuel f.type ((cs.drop f.offset).take (P.cellsOf f.type))) = some xs → total ≤ cs.length →
      ∃ dss : List (List D), dss.length = fs.length ∧ (∀ (i : Nat) (f : Nat × TypeId × Nat) (c : List D), fs[i]? = some f → dss[i]? = some c → WT T fuel f.2.1 c) ∧ o ≤ total ∧ RDs w dss.flatten ((cs.drop o).take (total - o))
  | [], [], o, total, xs, _, hc, _, _, _ => by
    simp only [contig, Option.some.injEq] at hc
    subst hc
    exact ⟨[], rfl, by simp, Nat.le_refl _, by simp; exact .nil⟩
  | f :: fl, g :: fs, o, total, xs, he, hc, hm, hx, hl => by
    simp only [List.map_cons, List.cons.injEq, Prod.mk.injEq] at he
    obtain ⟨⟨h1, h2⟩, h3⟩ := he
    simp only [contig] at hc
    split at hc
    · rename_i ho
      simp only [List.mapM_cons, Option.bind_eq_bind, Option.pure_def, Option.bind_eq_some_iff, Option.some.injEq] at hx
      obtain ⟨⟨d, ps⟩, hd, xs', hxs, rfl⟩ := hx
      obtain ⟨m1, m2⟩ := hm g (List.mem_cons_self ..)
      obtain ⟨dss, i1, i2, i3, i4⟩ := open_pieces ih fl fs (o + g.2.2) total xs' h3 hc (fun f hf => hm f (List.mem_cons_of_mem _ hf)) hxs hl
      rw [h2, h1, ho, m2] at hd
      obtain ⟨ds, r1, r2⟩ := ih g.2.1 _ d ps m1 hd
      refine ⟨ds :: dss, by simp [i1], fun i f' c hf hcc => ?_, by omega, ?_⟩
      · cases i with
        | zero => simp at hf hcc; subst hf; subst hcc; exact r2
        | succ i => exact i2 i f' c (by simpa using hf) (by simpa using hcc)
      · rw [List.flatten_cons]
        have e : (cs.drop o).take (total - o) = (cs.drop o).take g.2.2 ++ (cs.drop (o + g.2.2)).take (total - (o + g.2.2)) := by
          rw [show total - o = g.2.2 + (total - (o + g.2.2)) by omega, List.take_add, List.drop_drop]
        rw [e]
        exact r1.append i4
    · cases hc
  | [], _ :: _, _, _, _, he, _, _, _, _ => by simp at he
  | _ :: _, [], _, _, _, he, _, _, _, _ => by simp at he

theorem open_trod : ∀ (fuel : Nat) (t : TypeId) (cs : List Value) (d : DataW H) (ps : List MemPlace), t ∈ S → DataW.trod enc P w base spare held fuel t cs = some (d, ps) → ∃ ds, RDs w ds cs ∧ WT T fuel t ds := by
  intro fuel
  induction fuel with
  | zero => intro t cs d ps _ h; cases h
  | succ fuel ih =>
    intro t cs d ps ht h
    have hcl := (List.all_eq_true.1 hS) t ht
    split at hcl
    · rename_i i hi
      have f := hT t i hi
      have fk := f.kind
      unfold WT
      rw [hi]
      simp only []
      cases hk : i.kind with
      | int k =>
        rw [hk] at fk
        unfold DataW.trod at h
        rw [tint_und fk.1] at h
        simp only [] at h
        split at h <;> try (rename_i hu; cases hu)
        all_goals first
          | (split at h
             · rename_i hh
               obtain ⟨rfl, hwf⟩ := hh
               simp only [Lit.wf, Bool.and_eq_true, decide_eq_true_eq] at hwf
               exact ⟨[.v (.int _ _)], .cons (.v _ rfl) .nil, _, rfl, hwf.1, hwf.2⟩
             · cases h)
          | (simp at h; done)
      | bool =>
        rw [hk] at fk
        unfold DataW.trod at h
        rw [tbool_und fk.1] at h
        simp only [] at h
        split at h <;> first | (rename_i hu; cases hu; done) | skip
        all_goals first
          | (rename_i b _; exact ⟨[.v (.bool b)], .cons (.v _ rfl) .nil, b, rfl⟩)
          | (simp at h)
      | str =>
        rw [hk] at fk
        unfold DataW.trod at h
        rw [tstr_und' fk.1] at h
        simp only [] at h
        split at h <;> first | (rename_i hu; cases hu; done) | skip
        all_goals first
          | (rename_i s _
             split at h
             · rename_i hle
               exact ⟨[.s s.data.toList], .cons (by have := RepD.s (w := w) (W := NoW) s.data.toList; simpa using this) .nil, s.data.toList, rfl, by simpa using hle⟩
             · cases h)
          | (simp at h)
      | slice e =>
        rw [hk] at fk hcl
        simp only [Bool.and_eq_true, List.contains_iff_mem] at hcl
        obtain ⟨heS, hpos⟩ := hcl
        split at hpos
        · rename_i ei hei
          have g := hT e ei hei
          simp only [decide_eq_true_eq] at hpos
          have hce := tsz_cells g.sz
          unfold DataW.trod at h
          rw [telem_und fk.1] at h
          simp only [] at h
          split at h <;> first | (rename_i hu; cases hu; done) | skip
          all_goals first
            | (simp only [Option.some.injEq, Prod.mk.injEq] at h; exact ⟨[.sl []], .cons (.nil _ _) .nil, [], rfl, by simp, by simp⟩)
            | skip
          · rename_i e' a len cap hu
            simp only [Option.some.injEq, TypeDesc.slice.injEq] at hu
            subst hu
            split at h
            · rename_i hle
              simp only [Option.bind_eq_some_iff, Option.map_eq_some_iff] at h
              obtain ⟨elems, hel, rest, _, _⟩ := h
              have hel2 : ∀ i, i < len → ∃ vs ds, w.cells? base (a.add (i * ei.sz)) ei.sz = some vs ∧ RDs w ds vs ∧ WT T fuel e ds := fun i hi' => by
                obtain ⟨m1, m2⟩ := mapM_some hel
                rw [List.length_range] at m1
                have hgi : elems[i]? = some elems[i] := List.getElem?_eq_getElem (by omega)
                obtain ⟨i', hi1, hi2⟩ := m2 i _ hgi
                rw [List.getElem?_range hi'] at hi1
                simp only [Option.some.injEq] at hi1
                subst hi1
                rw [hce] at hi2
                simp only [Option.bind_eq_some_iff] at hi2
                obtain ⟨vs, hv1, hv2⟩ := hi2
                obtain ⟨ds, hd1, hd2⟩ := ih e vs _ _ heS hv2
                exact ⟨vs, ds, hv1, hd1, hd2⟩
              have hch : ∃ F : Nat → List Value, ∃ G : Nat → List D, ∀ i, i < len → w.cells? base (a.add (i * ei.sz)) ei.sz = some (F i) ∧ RDs w (G i) (F i) ∧ WT T fuel e (G i) := by
                refine ⟨fun i => if h : i < len then Classical.choose (hel2 i h) else [], fun i => if h : i < len then Classical.choose (Classical.choose_spec (hel2 i h)) else [], fun i hi' => ?_⟩
                simp only [hi', dif_pos]
                exact Classical.choose_spec (Classical.choose_spec (hel2 i hi'))
              obtain ⟨F, G, hFG⟩ := hch
              have hcells : ∀ i, i < len → (F i).length = ei.sz ∧ ∀ j, j < ei.sz → w.cell? ((a.add (i * ei.sz)).add j) = (F i)[j]? := fun i hi' => by
                have h1 := (hFG i hi').1
                unfold World.cells? at h1
                split at h1
                · obtain ⟨m1, m2⟩ := mapM_some h1
                  rw [List.length_range] at m1
                  refine ⟨m1, fun j hj => ?_⟩
                  have hgj : (F i)[j]? = some (F i)[j] := List.getElem?_eq_getElem (by omega)
                  obtain ⟨j', hj1, hj2⟩ := m2 j _ hgj
                  rw [List.getElem?_range hj] at hj1
                  simp only [Option.some.injEq] at hj1
                  subst hj1
                  rw [hj2, hgj]
                · cases h1
              refine ⟨[.sl ((List.range len).map G)], .cons ?_ .nil, (List.range len).map G, rfl, by simp; omega, fun c hc => ?_⟩
              · by_cases hl0 : len = 0
                · subst hl0; exact .nil _ _
                · have hsp : a.spot = none := by
                    have := (hcells 0 (by omega)).2 0 hpos
                    simp only [Nat.zero_mul, Addr.add, if_true] at this
                    have h3 : (F 0)[0]? = some ((F 0)[0]'(by rw [(hcells 0 (by omega)).1]; exact hpos)) := List.getElem?_eq_getElem _
                    rw [h3] at this
                    unfold World.cell? at this
                    split at this
                    · split at this
                      · cases this
                      · rename_i hn; simpa using hn
                    · cases this
                  obtain ⟨b, off, spot⟩ := a
                  simp only at hsp
                  subst hsp
                  have hGl : ∀ c ∈ (List.range len).map G, c.length = ei.sz := fun c hc => by
                    obtain ⟨i', hi1, rfl⟩ := List.mem_map.1 hc
                    rw [List.mem_range] at hi1
                    rw [(hFG i' hi1).2.1.len]; exact (hcells i' hi1).1
                  have hfl : ∀ k, k < len * ei.sz → ∃ v d, w.cell? ⟨b, off + k, none⟩ = some v ∧ ((List.range len).map G).flatten[k]? = some d ∧ RepD w NoW d v := fun k hk => by
                    have hi1 : k / ei.sz < len := (Nat.div_lt_iff_lt_mul hpos).2 hk
                    have hj1 : k % ei.sz < ei.sz := Nat.mod_lt _ hpos
                    have hkk : k = k / ei.sz * ei.sz + k % ei.sz := by rw [Nat.mul_comm]; exact (Nat.div_add_mod k ei.sz).symm
                    have h1 := (hcells _ hi1).2 _ hj1
                    have hadd : ((⟨b, off, none⟩ : Addr).add (k / ei.sz * ei.sz)).add (k % ei.sz) = ⟨b, off + k, none⟩ := by
                      generalize k / ei.sz * ei.sz = q at *
                      generalize k % ei.sz = r at *
                      subst hkk
                      unfold Addr.add
                      by_cases h0 : q = 0 <;> by_cases h00 : r = 0 <;> simp [h0, h00, Nat.add_assoc]
                    rw [hadd] at h1
                    have hgl : (G (k / ei.sz)).length = ei.sz := by rw [(hFG _ hi1).2.1.len]; exact (hcells _ hi1).1
                    have hgk : (G (k / ei.sz))[k % ei.sz]? = some ((G (k / ei.sz))[k % ei.sz]'(by omega)) := List.getElem?_eq_getElem _
                    obtain ⟨v, hv1, hv2⟩ := (hFG _ hi1).2.1.get _ _ hgk
                    refine ⟨v, _, by rw [h1]; exact hv1, ?_, hv2⟩
                    have := flat_get ei.sz _ hGl (k / ei.sz) (k % ei.sz) hj1
                    rw [← hkk] at this
                    rw [this]
                    simp only [List.getElem?_map, List.getElem?_range hi1, Option.map_some, Option.bind_some]
                    exact hgk
                  have hlen := flat_len ei.sz _ hGl
                  simp only [List.length_map, List.length_range] at hlen
                  have := RepD.sl (w := w) (W := NoW) ((List.range len).map G) ei.sz b off cap (fun k => (w.cell? ⟨b, off + k, none⟩).getD undef) hGl (by simp; omega) (fun k hk => by
                    rw [hlen] at hk
                    obtain ⟨v, d, h1, _, _⟩ := hfl k hk
                    rw [h1]; exact ⟨rfl, fun h => h⟩) (fun k c hk => by
                    have hk' := (List.getElem?_eq_some_iff.1 hk).1
                    rw [hlen] at hk'
                    obtain ⟨v, d, h1, h2, h3⟩ := hfl k hk'
                    rw [hk] at h2
                    simp only [Option.some.injEq] at h2
                    subst h2
                    rw [h1]; exact h3)
                  simpa using this
              · obtain ⟨i', hi1, rfl⟩ := List.mem_map.1 hc
                rw [List.mem_range] at hi1
                exact (hFG i' hi1).2.2
            · cases h
          all_goals (simp at h; done)
        · cases hpos
      | struct fs =>
        rw [hk] at fk hcl
        simp only [Bool.and_eq_true, beq_iff_eq, List.all_eq_true, List.contains_iff_mem] at hcl
        obtain ⟨hct, hfs⟩ := hcl
        obtain ⟨fl, hu, hfl⟩ := tstruct_und fk.2.2.1
        have hfd := fk.2.2.2
        have hall : ∀ f ∈ fs, f.2.1 ∈ S ∧ P.cellsOf f.2.1 = f.2.2 := fun f hf => by
          obtain ⟨g1, g2⟩ := hfs f hf
          refine ⟨g1, ?_⟩
          split at g2
          · rename_i fi hfi
            simp only [beq_iff_eq] at g2
            rw [tsz_cells (hT _ fi hfi).sz, g2]
          · cases g2
        have hlenf : fl.toList.length = fs.length := by
          have := (mapM_some hfl).1
          simpa using this.symm
        have hmatch : fl.toList.map (fun f => (f.offset, f.type)) = fs.map (fun f => (f.1, f.2.1)) := by
          refine List.ext_getElem? fun j => ?_
          by_cases hj : j < fs.length
          · have h2 := congrArg (·[j]?) hfd
            simp only [List.getElem?_map, List.getElem?_range hj, Option.map_some] at h2
            rw [show tfield P t j = (fl[j]?).map fun f => (f.offset, f.type) by unfold tfield; rw [hu]] at h2
            simp only [List.getElem?_map, Array.getElem?_toList]
            rw [List.getElem?_eq_getElem hj] at h2 ⊢
            simpa using h2
          · simp only [List.getElem?_map]
            rw [List.getElem?_eq_none (by omega), List.getElem?_eq_none (by omega)]; rfl
        unfold DataW.trod at h
        rw [hu] at h
        simp only [] at h
        split at h
        case isFalse => cases h
        case isTrue =>
          · rename_i hlen
            simp only [Option.map_eq_some_iff] at h
            obtain ⟨xs, hxs, _⟩ := h
            rw [tsz_cells f.sz] at hlen
            obtain ⟨dss, r1, r2, r3, r4⟩ := open_pieces (fun t cs d ps => ih t cs d ps) fl.toList fs 0 i.sz xs hmatch hct hall hxs (by omega)
            refine ⟨dss.flatten, ?_, dss, rfl, r1, r2⟩
            rw [List.drop_zero, Nat.sub_zero, List.take_of_length_le (by omega)] at r4
            exact r4
      | arr n e => rw [hk] at hcl; cases hcl
      | other => rw [hk] at hcl; cases hcl
      | map => rw [hk] at hcl; cases hcl
    · cases hcl

/-- An argument's abstract value, of its cells. -/
def argA (T : TT) (t : TypeId) (ds : List D) : A := match T t with
  | some i => (match i.agg with
    | true => .agg (ds.map C.d)
    | false => (match ds with | [d] => .one (.d d) | _ => .any))
  | none => .any

theorem open_arg {r : Reach} {b0 : Nat} {t : TypeId} {v : Value} {d : DataW H} {ps : List MemPlace} (ht : t ∈ S) (hval : Value.okWide P w r b0 t v) (h : DataW.Trod enc P w base spare held t v d ps) :
    ∃ n ds, WT T n t ds ∧ RepA w NoW E0 (argA T t ds) v := by
  obtain ⟨fuel, h⟩ := h
  obtain ⟨ds, h1, h2⟩ := open_trod hT hS fuel t _ d ps ht h
  refine ⟨fuel, ds, h2, ?_⟩
  cases fuel with
  | zero => exact h2.elim
  | succ n =>
    unfold WT at h2
    cases hi : T t with
    | none => rw [hi] at h2; exact h2.elim
    | some i =>
      rw [hi] at h2
      simp only [] at h2
      have f := hT t i hi
      have fk := f.kind
      have hone : ∀ (d : D), ds = [d] → v.cells = #[v] → RepA w NoW E0 (.one (.d d)) v := fun d hd hc => by
        rw [hc, hd] at h1
        cases h1 with
        | cons h _ => exact .one (.d d) v h
      have hag : ∀ b, i.agg = b → tagg P t = some b := fun b hb => by rw [f.agg, hb]
      unfold argA
      rw [hi]
      simp only []
      cases hk : i.kind with
      | int k =>
        rw [hk] at fk h2
        have hu := tint_und fk.1
        have : i.agg = false := by
          have := f.agg; unfold tagg at this; rw [hu] at this; simpa using this.symm
        rw [this]
        obtain ⟨x, rfl, _⟩ := h2
        obtain ⟨n, rfl⟩ := okWide_int hu hval
        exact hone _ rfl rfl
      | bool =>
        rw [hk] at fk h2
        have hu := tbool_und fk.1
        have : i.agg = false := by
          have := f.agg; unfold tagg at this; rw [hu] at this; simpa using this.symm
        rw [this]
        obtain ⟨x, rfl⟩ := h2
        obtain ⟨n, rfl⟩ := okWide_bool hu hval
        exact hone _ rfl rfl
      | str =>
        rw [hk] at fk h2
        have hu := tstr_und' fk.1
        have : i.agg = false := by
          have := f.agg; unfold tagg at this; rw [hu] at this; simpa using this.symm
        rw [this]
        obtain ⟨x, rfl, _⟩ := h2
        obtain ⟨n, rfl⟩ := okWide_string hu hval
        exact hone _ rfl rfl
      | slice e =>
        rw [hk] at fk h2
        have hu := telem_und fk.1
        have : i.agg = false := by
          have := f.agg; unfold tagg at this; rw [hu] at this; simpa using this.symm
        rw [this]
        obtain ⟨x, rfl, _⟩ := h2
        obtain ⟨a, len, cap, rfl⟩ := okWide_slice hu hval
        exact hone _ rfl rfl
      | struct fs =>
        rw [hk] at fk
        obtain ⟨fl, hu, _⟩ := tstruct_und fk.2.2.1
        have : i.agg = true := by
          have := f.agg; unfold tagg at this; rw [hu] at this; simpa using this.symm
        rw [this]
        obtain ⟨cs, rfl, _⟩ := okWide_struct hu hval
        have h1 : RDs w ds cs.toList := h1
        have e : (Value.agg cs) = .agg cs.toList.toArray := by simp
        rw [e]
        refine .agg _ cs.toList (by rw [List.length_map, h1.len]) fun k c hk => ?_
        simp only [List.getElem?_map, Option.map_eq_some_iff] at hk
        obtain ⟨d', hd, rfl⟩ := hk
        obtain ⟨u, hu1, hu2⟩ := h1.get k d' hd
        have : cs.toList.getD k undef = u := by rw [List.getD_eq_getElem?_getD, hu1]; rfl
        rw [this]
        exact hu2
      | arr n e => rw [hk] at h2; exact h2.elim
      | other => rw [hk] at h2; exact h2.elim
      | map => rw [hk] at h2; exact h2.elim

/-- The arguments of a call, of their types. -/
def ArgsOK (T : TT) : List TypeId → List A → Prop
  | [], [] => True
  | t :: ts, a :: as => (∃ n ds, WT T n t ds ∧ a = argA T t ds) ∧ ArgsOK T ts as
  | _, _ => False

omit hT hS in
theorem ArgsOK.len {T : TT} : ∀ {ts : List TypeId} {as : List A}, ArgsOK T ts as → as.length = ts.length
  | [], [], _ => rfl
  | _ :: _, _ :: _, h => by simp [ArgsOK.len h.2]
  | [], _ :: _, h => h.elim
  | _ :: _, [], h => h.elim

theorem open_args {b0 : Nat} : ∀ (ts : List TypeId) (vs : List Value) (ds : List (DataW H)) (ps : List MemPlace), (∀ t ∈ ts, t ∈ S) → (∀ (j : Nat) (t : TypeId) (v : Value), ts[j]? = some t → vs[j]? = some v → Value.okWide P w .any b0 t v) →
    DataW.TrodAll enc P w base spare held ts vs ds ps → vs.length = ts.length ∧ ds.length = ts.length ∧ ∃ as, ArgsOK T ts as ∧ ∀ (k : Nat) (a : A), as[k]? = some a → RepA w NoW E0 a (vs.getD k undef)
  | [], [], [], ps, _, _, _ => ⟨rfl, rfl, [], trivial, by simp⟩
  | t :: ts, v :: vs, d :: ds, ps, hm, hv, h => by
    obtain ⟨p, q, h1, h2, _⟩ := h
    obtain ⟨n, ds', r1, r2⟩ := open_arg hT hS (hm t (List.mem_cons_self ..)) (hv 0 t v rfl rfl) h1
    obtain ⟨i1, i3, as, i2, i4⟩ := open_args ts vs ds q (fun t ht => hm t (List.mem_cons_of_mem _ ht)) (fun j t v hj hk => hv (j + 1) t v (by simpa using hj) (by simpa using hk)) h2
    refine ⟨by simp [i1], by simp [i3], argA T t ds' :: as, ⟨⟨n, ds', r1, rfl⟩, i2⟩, fun k a hk => ?_⟩
    cases k with
    | zero => simp at hk; subst hk; exact r2
    | succ k => simpa using i4 k a (by simpa using hk)
  | [], _ :: _, _, _, _, _, h => h.elim
  | [], [], _ :: _, _, _, _, h => h.elim
  | _ :: _, [], _, _, _, _, h => h.elim
  | _ :: _, _ :: _, [], _, _, _, h => h.elim
end

section
variable {H : Type} {enc : TypeId × Value → H} {P : Program}
theorem post_below {f : Func} {s : ChangeSpec} {apart fresh handsOn again : Bool} {W W' : World} {args : Array Value} {v : Value} {ds gs : List (DataW H)} {before pa pv : List MemPlace}
    (hW : DataW.Whole enc P f.params.toList s.vars apart W args.toList ds gs before)
    (hres : ∀ (b : Nat) (sp : Nat → Bool) (hd : Bool), DataW.TrodAll enc P W' b sp hd f.resultTypes.toList (v.resultList f.resultTypes.size) (s.fn H (ds ++ gs)).results [])
    (hargs : ∀ sp : Nat → Bool, (∀ p ∈ before, sp p.block = true) → DataW.TrodAll enc P W' 0 sp true f.params.toList args.toList (s.fn H (ds ++ gs)).args pa)
    (hvars : ∀ sp : Nat → Bool, (∀ p ∈ before, sp p.block = true) → DataW.TrodVars enc P W' sp s.vars (s.fn H (ds ++ gs)).vars pv)
    (hps : before = pa ++ pv) (hb : Below W.heap.size W W')
    (hok : ∀ (j : Nat) (t : TypeId) (r : Value), f.resultTypes[j]? = some t → (v.resultList f.resultTypes.size)[j]? = some r → Value.okWide P W' .any 0 t r) :
    s.post enc P f apart fresh handsOn again W args v W' := by
  have hlt : ∀ p ∈ before, p.block < W.heap.size := fun p hp => hW.lt p hp
  have hold : ∀ p ∈ before, (fun b => decide (b < W.heap.size)) p.block = true := fun p hp => by simpa using hlt p hp
  refine ⟨ds, gs, before, [], pa, pv, hW, hres _ _ _, hargs _ hold, hvars _ hold, World.keptBut_mono (fun p hp => ⟨hp, ?_⟩) (hb.frame (· ∈ before)), fun _ => ?_⟩
  · rw [hps, List.mem_append] at hp
    exact Or.inr hp
  · obtain ⟨_, _, _, _, _, hz, hn⟩ := hW
    refine ⟨hok, _, _, ([] ++ pa) ++ pv, ⟨[] ++ pa, pv, trodAll_append (hargs _ (fun _ _ => rfl)) (hres _ _ _), hvars _ (fun _ _ => rfl), rfl, ?_, ?_⟩, ?_⟩
    · intro b off hp
      have hin : MemPlace.cell b off ∈ before := by rw [hps]; simpa using hp
      rw [hb.frozen (hlt _ hin)]
      exact hz b off hin
    · intro ha
      have := hn ha
      rw [hps] at this
      simpa using this
    · intro p hp _
      rw [hps]
      simpa using hp

theorem trodAll_stays (hl : laidOutB P = true) {W W' : World} (hb : Below W.heap.size W W') (sp : Nat → Bool) : ∀ (ts : List TypeId) (vs : List Value) (ds : List (DataW H)) (ps : List MemPlace),
    (∀ t ∈ ts, P.readableRec t = true ∧ t < P.types.size) → (∀ p ∈ ps, p.block < W.heap.size) → (∀ p ∈ ps, sp p.block = true) → DataW.TrodAll enc P W 0 (fun _ => true) true ts vs ds ps → DataW.TrodAll enc P W' 0 sp true ts vs ds ps
  | [], [], [], ps, _, _, _, h => h
  | t :: ts, v :: vs, d :: ds, ps, hm, hlt, hsp, h => by
    obtain ⟨p, q, h1, h2, rfl⟩ := h
    obtain ⟨r1, r2⟩ := hm t (List.mem_cons_self ..)
    refine ⟨p, q, WideElems.Trod_stays hl r1 r2 h1 (fun x hx => hb.same (hlt x (List.mem_append_left _ hx))) (fun x hx => hsp x (List.mem_append_left _ hx)),
      trodAll_stays hl hb sp ts vs ds q (fun t ht => hm t (List.mem_cons_of_mem _ ht)) (fun x hx => hlt x (List.mem_append_right _ hx)) (fun x hx => hsp x (List.mem_append_right _ hx)) h2, rfl⟩
  | [], _ :: _, _, _, _, _, _, h => h.elim
  | [], [], _ :: _, _, _, _, _, h => h.elim
  | _ :: _, [], _, _, _, _, _, h => h.elim
  | _ :: _, _ :: _, [], _, _, _, _, h => h.elim

/-- A law's contract: whatever the arguments, true; and they read as they did. -/
theorem law_contract {T : TT} (hT : TOk P T) {S : List TypeId} (hS : closedT T S = true) (hl : laidOutB P = true) {f : FuncId} {fn : Func} {s : ChangeSpec} {apart fresh handsOn again : Bool} {bt : TypeId}
    (hp : (fn.params.toList.all fun t => S.contains t && P.readableRec t && decide (t < P.types.size)) = true) (hr : fn.resultTypes = #[bt]) (hbt : P.underlying bt = some .bool) (hsv : s.vars = [])
    (hsp : ∀ ds : List (DataW H), ds.length = fn.params.toList.length → s.fn H ds = { results := [.lit (.bool true)], args := ds })
    (core : ∀ as, ArgsOK T fn.params.toList as → PCall P f as (.one (.d (.v (.bool true)))))
    {W : World} (hgl : GlW W) {b0 : Nat} {args : Array Value} {ds gs : List (DataW H)} {before : List MemPlace}
    (hval : ∀ (j : Nat) t v, fn.params[j]? = some t → args[j]? = some v → Value.okWide P W .any b0 t v)
    (hW : DataW.Whole enc P fn.params.toList s.vars apart W args.toList ds gs before) :
    Calls P f args W fun e W' => ∃ v, e = .returned v ∧ s.post enc P fn apart fresh handsOn again W args v W' := by
  have hW' := hW
  obtain ⟨p, q, hA, hV, rfl, hfz, hnd⟩ := hW
  rw [hsv] at hV
  obtain ⟨rfl, rfl⟩ := trodVars_none hV
  have hp' : ∀ t ∈ fn.params.toList, t ∈ S ∧ P.readableRec t = true ∧ t < P.types.size := fun t ht => by
    have := (List.all_eq_true.1 hp) t ht
    simp only [Bool.and_eq_true, List.contains_iff_mem, decide_eq_true_eq] at this
    exact ⟨this.1.1, this.1.2, this.2⟩
  obtain ⟨i1, i3, as, i2, i4⟩ := open_args hT hS fn.params.toList args.toList ds p (fun t ht => (hp' t ht).1) (fun j t v hj hk => hval j t v (by simpa using hj) (by simpa using hk)) hA
  have hlen := i2.len
  refine ((core as i2).2 W NoW args hgl (fun b o h => h.elim) (by rw [hlen, ← i1]; simp) (fun k a hk => ?_)).mono ?_
  · have := i4 k a hk
    rw [List.getD_eq_getElem?_getD, Array.getElem?_toList, ← Array.getD_eq_getD_getElem?] at this
    exact this
  · rintro e W' ⟨v, rfl, hv, hb⟩
    have hvb : v = .bool true := by
      cases hv with
      | one _ _ h => cases h; rfl
    subst hvb
    refine ⟨_, rfl, post_below (pa := p) (pv := []) hW' ?_ ?_ ?_ (by simp) hb ?_⟩
    · intro b sp hd
      rw [List.append_nil, hsp ds i3, hr]
      exact trodAll_mk1 (shut_bool hbt true)
    · intro sp hsp2
      rw [List.append_nil, hsp ds i3]
      refine trodAll_stays hl hb sp _ _ _ _ (fun t ht => ⟨(hp' t ht).2.1, (hp' t ht).2.2⟩) (fun x hx => ?_) (fun x hx => hsp2 x (by simpa using hx)) hA
      exact hW'.lt x (by simpa using hx)
    · intro sp _
      rw [List.append_nil, hsp ds i3, hsv]
      rfl
    · exact ok_one hr rfl (okWide_bool_mk hbt true)
end
end Go.Av
