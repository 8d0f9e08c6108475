/-
  Blocks under counted names, read as pure data: for a call that looks at them, and at a function's end. Over any program. No toy.
-/
import Derived.Test.YtnfbgleaodkjpaaHvCall
set_option linter.all false
namespace Go.Av
open Go.RowKit

def xmapC (f : C → Option D) : List C → Option (List D)
  | [] => some []
  | c :: cs => (f c).bind fun d => (xmapC f cs).bind fun ds => some (d :: ds)
theorem xmapC_some {f : C → Option D} : ∀ {cs : List C} {ds : List D}, xmapC f cs = some ds → ds.length = cs.length ∧ ∀ (k : Nat) (d : D), ds[k]? = some d → ∃ c, cs[k]? = some c ∧ f c = some d
  | [], ds, h => by simp only [xmapC, Option.some.injEq] at h; subst h; simp
  | c :: cs, ds, h => by
    simp only [xmapC, Option.bind_eq_some_iff, Option.some.injEq] at h
    obtain ⟨d, h1, ds', h2, rfl⟩ := h
    obtain ⟨i1, i2⟩ := xmapC_some h2
    refine ⟨by simp [i1], fun k y hk => ?_⟩
    cases k with
    | zero => simp at hk; subst hk; exact ⟨c, rfl, h1⟩
    | succ k => simpa using i2 k y (by simpa using hk)

/-- A cell as pure data, as deep as that. -/
def hLow (H : Hp) : Nat → C → Option D
  | 0, c => low c
  | n + 1, c => match c with
    | .hs k off len => (hGet H k).bind fun o => if off + len ≤ o.cs.length then (xmapC (hLow H n) ((o.cs.drop off).take len)).map fun ds => .sl (ds.map fun d => [d]) else none
    | c => low c

def alowH (H : Hp) : A → Option A
  | .one c => (hLow H 3 c).map fun x => .one (.d x)
  | .agg cs => (cs.mapM low).map fun ds => .agg (ds.map C.d)
  | _ => none

def A.scal : A → Bool
  | .one (.d (.v _)) => true
  | .one (.d (.s _)) => true
  | _ => false

theorem RepA.scal {w w' : World} {W W' : WSet} {E E' : Env} {r : A} {v : Value} (h : RepA w W E r v) (hs : r.scal = true) : RepA w' W' E' r v := by
  unfold A.scal at hs
  split at hs
  · have h := one_inv h
    cases h; exact .one _ _ (RepD.v _ (by assumption))
  · have h := one_inv h
    cases h; exact .one _ _ (RepD.s _)
  · cases hs

section
variable {P : Program} {x : Ent} {s : St} {w : World} {E : Env}

theorem flat_ones (ds : List D) : (ds.map fun d => [d]).flatten = ds := by induction ds with | nil => rfl | cons d ds ih => simp [ih]

theorem hLow_rep (h3 : RepE P x s w E) {W : WSet} (hW : ∀ b p, W b p → Wn x s E b p) (hno : ∀ b p, OwnH s E b p → ¬ W b p) : ∀ (n : Nat) (c : C) (v : Value) (d : D), RepC w (Wn x s E) E c v → hLow s.H n c = some d → RepD w W d v
  | 0, c, v, d, h, hl => (h.low hl).keep (Keeps.anti hW)
  | n + 1, c, v, d, h, hl => by
    cases c with
    | hs k off len =>
      simp only [hLow, Option.bind_eq_some_iff] at hl
      obtain ⟨o, ho, hl⟩ := hl
      split at hl
      · rename_i hle
        simp only [Option.map_eq_some_iff] at hl
        obtain ⟨ds, hds, rfl⟩ := hl
        have hk := hGet_some ho
        obtain ⟨m1, m2⟩ := xmapC_some hds
        have hdl : ds.length = len := by rw [m1]; simp; omega
        obtain ⟨_, b, cap, rfl, hcase⟩ := h
        rcases hcase with ⟨rfl, _, _⟩ | ⟨rfl, hcap, _⟩
        · have : ds = [] := List.eq_nil_of_length_eq_zero hdl
          subst this
          exact RepD.nil _ _
        · have := RepD.sl (w := w) (W := W) (ds.map fun d => [d]) 1 (E.γ k) off cap (fun i => match w.cell? ⟨E.γ k, off + i, none⟩ with | some u => u | none => undef) (by intro e he; obtain ⟨d, _, rfl⟩ := List.mem_map.1 he; rfl) (by rw [List.length_map, hdl]; exact hcap)
            (fun i hi => by
              rw [flat_ones] at hi
              obtain ⟨c', hc', _⟩ := m2 i _ (List.getElem?_eq_getElem hi)
              rw [List.getElem?_take, if_pos (by omega), List.getElem?_drop] at hc'
              obtain ⟨_, u, hu, _⟩ := h3.hp.cell hk hc'
              rw [hu]
              exact ⟨rfl, hno _ _ ⟨k, o, hk, rfl⟩⟩)
            (fun i d hi => by
              rw [flat_ones] at hi
              obtain ⟨c', hc', hlow⟩ := m2 i d hi
              have hil : i < len := by have := (List.getElem?_eq_some_iff.1 hi).1; omega
              rw [List.getElem?_take, if_pos hil, List.getElem?_drop] at hc'
              obtain ⟨_, u, hu, hru⟩ := h3.hp.cell hk hc'
              rw [hu]
              exact hLow_rep h3 hW hno n c' u d hru hlow)
          rw [List.length_map, hdl] at this
          exact this
      · cases hl
    | d y => exact (h.low hl).keep (Keeps.anti hW)
    | full es => exact (h.low hl).keep (Keeps.anti hW)
    | app es i => exact (h.low hl).keep (Keeps.anti hW)
    | ref id off => exact (h.low hl).keep (Keeps.anti hW)
    | msl id off l cap sz => exact (h.low hl).keep (Keeps.anti hW)
    | clo f ids => exact (h.low hl).keep (Keeps.anti hW)
    | any => exact (h.low hl).keep (Keeps.anti hW)
    | hp k off => exact (h.low hl).keep (Keeps.anti hW)
    | hclo f ks => exact (h.low hl).keep (Keeps.anti hW)
    | mp id => exact (h.low hl).keep (Keeps.anti hW)

theorem alowH_rep (h3 : RepE P x s w E) {W : WSet} (hW : ∀ b p, W b p → Wn x s E b p) (hno : ∀ b p, OwnH s E b p → ¬ W b p) {E' : Env} {r r' : A} {v : Value} (h : RepA w (Wn x s E) E r v) (hl : alowH s.H r = some r') : RepA w W E' r' v := by
  cases h with
  | one c v h =>
    simp only [alowH, Option.map_eq_some_iff] at hl
    obtain ⟨d, hd, rfl⟩ := hl
    exact .one (.d d) v (hLow_rep h3 hW hno 3 c v d h hd)
  | agg cs vs hlen h =>
    have := alow_rep (E' := E') (.agg cs vs hlen h) (by simpa [alowH, alow] using hl)
    exact this.keep (Keeps.anti hW) (.refl E')
  | _ => simp [alowH] at hl

theorem ACall.scal {f : FuncId} {args args' : List A} {r : A} {K : A → St → Prop} (h : PCall P f args' r) (hl : args.mapM (alowH s.H) = some args') (hs : r.scal = true) (hK : K r s) : ACall P f args s K := by
  refine ⟨h.1, fun x a w vs hx hr hvs hrep => ?_⟩
  obtain ⟨h1, h2, E, h3, h4⟩ := hr
  obtain ⟨l1, l2⟩ := mapM_some hl
  let W1 : WSet := fun b o => Wn x s E b o ∧ ¬ OwnH s E b o
  refine (h.2 w W1 vs (h3.glw hx) (fun b o hb => h3.wn_lt hx hb.1) (by rw [hvs, l1]) (fun k q hq => ?_)).mono ?_
  · obtain ⟨r0, hr0, hlow⟩ := l2 k q hq
    exact alowH_rep h3 (fun b p h => h.1) (fun b p h h' => h'.2 h) (hrep _ _ h4 k r0 hr0) hlow
  · rintro e w' ⟨v, rfl, hv, hb⟩
    have gr := Grew.of_below hb
    exact ⟨v, r, s, rfl, ⟨h1, h2, E, h3.grew gr, fun i => (h4 i).keep (gr.keeps _) (.refl E), hv.scal hs⟩, hK, rfl⟩
end
end Go.Av
