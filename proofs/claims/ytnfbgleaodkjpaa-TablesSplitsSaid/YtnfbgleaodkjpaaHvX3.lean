/-
  What an operation gives when run is what the words of AvOps say. Over any program. No toy.
-/
import Derived.Test.YtnfbgleaodkjpaaHvX2
set_option linter.all false
namespace Go.Av
open Go.RowKit

section
variable {R : Type} {P : Program} {T : TT} (hT : TOk P T) {s : St} {res : R} {K : A → Option R} {Ks : A → St → Option R} {Kp : A → St → Prop}
include hT

omit hT in
theorem xLoadCs_some {t : TypeId} {i : TI} (hi : TFact P t i) {off : Nat} {cs : List C} (h : xLoadCs i off cs K = some res) :
    off + i.sz ≤ cs.length ∧ (match i.agg with | true => K (.agg ((cs.drop off).take i.sz)) = some res | false => ∃ c l, (cs.drop off).take i.sz = c :: l ∧ K (.one c) = some res) := by
  simp only [xLoadCs, xif_some, Bool.and_eq_true, decide_eq_true_eq, beq_iff_eq] at h
  obtain ⟨⟨h2, h1⟩, h3⟩ := h
  have h4 := xCns_some (by omega) h3
  rw [h2] at h4
  refine ⟨h1, ?_⟩
  split at h4
  · rename_i e; rw [e]; exact h4
  · rename_i e; rw [e]
    split at h4
    · exact ⟨_, _, by assumption, h4⟩
    · cases h4

theorem xLoad_sound {t : TypeId} {y : Operand} (h : xLoad T s t (aeval s y) K = some res) (hK : ∀ r, K r = some res → Kp r s) : aLoad P s t y Kp := by
  unfold xLoad at h
  split at h
  · cases h
  · rename_i i hi
    have f := hT t i hi
    unfold aLoad
    rw [f.agg, f.sz]
    split at h
    · rename_i id off ha
      rw [ha]
      simp only []
      split at h
      · rename_i cs hcs
        simp only [hcs]
        obtain ⟨h1, h2⟩ := xLoadCs_some f h
        unfold aLoadCells
        cases hag : i.agg with
        | true => rw [hag] at h2; exact ⟨by simp; omega, hK _ h2⟩
        | false =>
          rw [hag] at h2
          obtain ⟨c, l, h3, h4⟩ := h2
          simp only []
          cases hd : cs.drop off with
          | nil => rw [hd] at h3; simp at h3
          | cons c' l' =>
            rw [hd] at h3
            have : c' = c := by
              cases hz : i.sz with
              | zero => rw [hz] at h3; simp at h3
              | succ n => rw [hz] at h3; simp at h3; exact h3.1
            subst this
            exact hK _ h4
      · cases h
    · rename_i ds ha
      rw [ha]
      simp only []
      simp only [xLoadPP, xif_some, Bool.and_eq_true, decide_eq_true_eq, beq_iff_eq] at h
      obtain ⟨⟨h2, h1⟩, h3⟩ := h
      have h4 := xDns_some (by omega) h3
      rw [h2, List.drop_zero] at h4
      unfold aLoadCells
      split at h4
      · rename_i e; rw [e]; exact ⟨by simpa using h1, by rw [← List.map_take]; exact hK _ h4⟩
      · rename_i e; rw [e]
        simp only []
        split at h4
        · rename_i d l hd
          cases ds with
          | nil => simp at hd
          | cons d' ds' =>
            have : d' = d := by
              cases hz : i.sz with
              | zero => rw [hz] at hd; simp at hd
              | succ n => rw [hz] at hd; simp at hd; exact hd.1
            subst this
            exact hK _ h4
        · cases h4
    · cases h

theorem xStore_sound {t : TypeId} {y z : Operand} (h : xStore T s t (aeval s y) (aeval s z) Ks = some res) (hK : ∀ r s', Ks r s' = some res → Kp r s') : aStore P s t y z Kp := by
  unfold xStore at h
  split at h
  · rename_i i id off ys hi ha hy
    have f := hT t i hi
    unfold aStore
    rw [f.sz, ha, hy]
    simp only []
    split at h
    · rename_i cs hcs
      simp only [hcs]
      simp only [xif_some, Bool.and_eq_true, decide_eq_true_eq] at h
      exact ⟨h.1.1, h.1.2, hK _ _ h.2⟩
    · cases h
  · cases h

omit hT in
theorem field_fact {t : TypeId} {i : TI} (hi : TFact P t i) {fs : List (Nat × TypeId × Nat)} (hk : i.kind = .struct fs) {j off n : Nat} {ft : TypeId} (hj : fs[j]? = some (off, ft, n)) : tfield P t j = some (off, ft) := by
  have := hi.kind
  rw [hk] at this
  obtain ⟨_, _, _, h⟩ := this
  have h2 := congrArg (·[j]?) h
  have hlt : j < fs.length := (List.getElem?_eq_some_iff.1 hj).1
  simp only [List.getElem?_map, List.getElem?_range hlt, hj, Option.map_some] at h2
  simpa using h2

theorem xFieldAddr_sound {t : TypeId} {y : Operand} {j : Nat} (h : xFieldAddr T t (aeval s y) j K = some res) (hK : ∀ r, K r = some res → Kp r s) : aFieldAddr P s t y j Kp := by
  unfold xFieldAddr at h
  split at h
  · rename_i i hi
    have f := hT t i hi
    split at h
    · rename_i fs hk
      split at h
      · rename_i off ft n hj
        split at h
        · rename_i fi hfi
          have g := hT ft fi hfi
          simp only [xif_some, decide_eq_true_eq] at h
          obtain ⟨hpos, h⟩ := h
          unfold aFieldAddr
          rw [field_fact f hk hj]
          simp only []
          rw [g.sz]
          cases hz : fi.sz with
          | zero => omega
          | succ m =>
            simp only []
            split at h
            · rename_i id o ha; rw [ha]; exact hK _ h
            · rename_i ds ha; rw [ha]; exact hK _ h
            · cases h
        · cases h
      · cases h
    · cases h
  · cases h

theorem xIndexAddr_sound {t : TypeId} {y ix : Operand} (h : xIndexAddr T t (aeval s y) (aeval s ix) K = some res) (hK : ∀ r, K r = some res → Kp r s) : aIndexAddr P s t y ix Kp := by
  unfold xIndexAddr at h
  simp only [Option.bind_eq_some_iff] at h
  obtain ⟨n, hn, h⟩ := h
  obtain ⟨k, hn⟩ := xIx_some hn
  unfold aIndexAddr
  rw [hn]
  simp only []
  split at h
  · rename_i i hi
    have f := hT t i hi
    split at h
    · rename_i e hk
      have fk := f.kind
      rw [hk] at fk
      rw [fk.1]
      simp only []
      split at h
      · rename_i ei hei
        have g := hT e ei hei
        rw [g.sz]
        simp only []
        split at h
        · rename_i id off len cap sz' ha
          rw [ha]
          simp only [slElems]
          simp only [xif_some, Bool.and_eq_true, decide_eq_true_eq, beq_iff_eq] at h
          exact ⟨h.1.2.1, h.1.2.2, h.1.1, hK _ h.2⟩
        · simp only [Option.bind_eq_some_iff] at h
          obtain ⟨es, he, c, hc, h⟩ := h
          obtain ⟨h1, h2, h3⟩ := xElem_some hc
          rw [he]
          simp only [h2]
          exact ⟨h1, h3, hK _ h⟩
      · cases h
    · rename_i m e hk
      have fk := f.kind
      rw [hk] at fk
      rw [fk.1, fk.2.1]
      simp only []
      split at h
      · rename_i ei hei
        have g := hT e ei hei
        rw [g.sz]
        simp only []
        split at h
        · rename_i id o ha
          rw [ha]
          simp only [xif_some, Bool.and_eq_true, decide_eq_true_eq] at h
          exact ⟨h.1.1, h.1.2, hK _ h.2⟩
        · rename_i ds ha
          rw [ha]
          simp only [xif_some, Bool.and_eq_true, decide_eq_true_eq] at h
          exact ⟨h.1.1, h.1.2, hK _ h.2⟩
        · cases h
      · cases h
    · cases h
  · cases h

omit hT in
theorem xPart_sound {t : TypeId} {i : TI} (hi : TFact P t i) {cs : List C} {off : Nat} (hpos : i.agg = true ∨ True) (h : xPart i cs off K = some res) (hK : ∀ r, K r = some res → Kp r s) : aPart P s t cs off Kp := by
  obtain ⟨h1, h2⟩ := xLoadCs_some hi h
  unfold aPart
  rw [hi.agg, hi.sz]
  cases hag : i.agg with
  | true => rw [hag] at h2; exact ⟨h1, hK _ h2⟩
  | false =>
    rw [hag] at h2
    obtain ⟨c, l, h3, h4⟩ := h2
    simp only []
    have : cs[off]? = some c := by
      have := congrArg (·[0]?) h3
      simp only [List.getElem?_cons_zero, List.getElem?_take, List.getElem?_drop, Nat.add_zero] at this
      split at this
      · exact this
      · cases this
    rw [this]
    exact hK _ h4

theorem xField_sound {t : TypeId} {y : Operand} {j : Nat} (h : xField T t (aeval s y) j K = some res) (hK : ∀ r, K r = some res → Kp r s) : aField P s t y j Kp := by
  unfold xField at h
  split at h
  · rename_i i cs hi ha
    have f := hT t i hi
    split at h
    · rename_i fs hk
      split at h
      · rename_i off ft n hj
        split at h
        · rename_i fi hfi
          unfold aField
          rw [field_fact f hk hj, ha]
          exact xPart_sound (hT ft fi hfi) (.inr trivial) h hK
        · cases h
      · cases h
    · cases h
  · cases h

theorem xIndex_sound {t : TypeId} {y ix : Operand} (h : xIndex T t (aeval s y) (aeval s ix) K = some res) (hK : ∀ r, K r = some res → Kp r s) : aIndex P s t y ix Kp := by
  unfold xIndex at h
  simp only [Option.bind_eq_some_iff] at h
  obtain ⟨n, hn, h⟩ := h
  obtain ⟨k, hn⟩ := xIx_some hn
  unfold aIndex
  rw [hn]
  split at h
  · rename_i i hi
    have f := hT t i hi
    have fk := f.kind
    split at h
    · rename_i hk
      rw [hk] at fk
      simp only [Option.bind_eq_some_iff] at h
      obtain ⟨l, hl, b, hb, h⟩ := h
      rw [xS_some hl]
      simp only []
      unfold xIdxS at hb
      split at hb
      · rename_i h0
        rw [hb]
        exact ⟨fk.1, h0, hK _ h⟩
      · cases hb
    · rename_i m e hk
      rw [hk] at fk
      split at h
      · rename_i ei cs hei ha
        have g := hT e ei hei
        simp only [xif_some, Bool.and_eq_true, decide_eq_true_eq] at h
        rw [ha]
        simp only [fk.2.1, g.sz]
        exact ⟨h.1.1, h.1.2, xPart_sound g (.inr trivial) h.2 hK⟩
      · cases h
    · cases h
  · cases h

omit hT in
theorem xExtract_sound {y : Operand} {j : Nat} (h : xExtract (aeval s y) j K = some res) (hK : ∀ r, K r = some res → Kp r s) : aExtract s y j Kp := by
  unfold xExtract at h
  simp only [Option.bind_eq_some_iff] at h
  obtain ⟨r, h1, h2⟩ := h
  obtain ⟨as, ha, hr⟩ := xtup_some h1
  unfold aExtract
  rw [ha]
  simp only [hr]
  exact hK _ h2

omit hT in
theorem isShift_cases (op : BinOp) : isShift op = true ∨ isShift op = false := by cases isShift op <;> simp

theorem xBin_sound {op : BinOp} {t t2 : TypeId} {y z : Operand} (h : xBin T op t t2 (aeval s y) (aeval s z) K = some res) (hK : ∀ r, K r = some res → Kp r s) : aBin P s op t y z Kp := by
  unfold xBin at h
  split at h
  · cases h
  · rename_i i hi
    have f := hT t i hi
    have fk := f.kind
    unfold aBin
    split at h
    · rename_i k hk
      split at h
      · rename_i hs
        split at h
        · rename_i i2 hi2
          split at h
          · simp only [Option.bind_eq_some_iff] at h
            obtain ⟨a, ha, b, hb, h⟩ := h
            rw [xI_some ha, xI_some hb]
            simp only [hs]
            exact xishift_some h fun v hv => hK _ hv
          · cases h
        · cases h
      · rename_i hs
        simp only [Option.bind_eq_some_iff] at h
        obtain ⟨a, ha, b, hb, h⟩ := h
        rw [xI_some ha, xI_some hb]
        simp only [hs]
        exact ⟨trivial, xibin_some h fun v hv => hK _ hv⟩
    · rename_i hk
      rw [hk] at fk
      simp only [Option.bind_eq_some_iff] at h
      obtain ⟨a, ha, b, hb, h⟩ := h
      rw [xB_some ha, xB_some hb]
      refine ⟨fk.1, ?_⟩
      split at h
      · exact hK _ h
      · exact hK _ h
      · cases h
    · simp only [Option.bind_eq_some_iff] at h
      obtain ⟨a, ha, b, hb, h⟩ := h
      rw [xS_some ha, xS_some hb]
      exact xsbin_some h fun v hv => hK _ hv
    · cases h

omit hT in
theorem xUn_sound {op : UnOp} {t : TypeId} {y : Operand} (h : xUn T op t (aeval s y) K = some res) (hK : ∀ r, K r = some res → Kp r s) : aUn s op y Kp := by
  unfold xUn at h
  unfold aUn
  split at h
  · simp only [Option.bind_eq_some_iff] at h
    obtain ⟨a, ha, h⟩ := h
    rw [xB_some ha]; exact hK _ h
  · split at h
    · split at h
      · simp only [Option.bind_eq_some_iff] at h
        obtain ⟨a, ha, h⟩ := h
        rw [xI_some ha]; exact hK _ h
      · cases h
    · cases h
  · split at h
    · split at h
      · simp only [Option.bind_eq_some_iff] at h
        obtain ⟨a, ha, h⟩ := h
        rw [xI_some ha]; exact hK _ h
      · cases h
    · cases h
  · cases h

theorem xConvert_sound {src dst : TypeId} {y : Operand} (h : xConvert T src dst (aeval s y) K = some res) (hK : ∀ r, K r = some res → Kp r s) : aConvert P s src dst y Kp := by
  unfold xConvert at h
  split at h
  · rename_i i j hi hj
    have f := hT src i hi
    have g := hT dst j hj
    have gk := g.kind
    unfold aConvert
    split at h
    · rename_i k0 k hk0 hk
      simp only [Option.bind_eq_some_iff] at h
      obtain ⟨a, ha, h⟩ := h
      rw [xI_some ha]
      rw [hk] at gk
      simp only [gk.1]
      exact ⟨f.und, hK _ h⟩
    · rename_i hk0 hk
      simp only [Option.bind_eq_some_iff] at h
      obtain ⟨a, ha, h⟩ := h
      rw [xS_some ha]
      rw [hk] at gk
      exact ⟨gk.1, f.und, hK _ h⟩
    · cases h
  · cases h

theorem xBuild_sound {t : TypeId} {parts : Array (Nat × Operand)} (h : xBuild T s t parts.toList K = some res) (hK : ∀ r, K r = some res → Kp r s) : aBuild P s t parts Kp := by
  unfold xBuild at h
  split at h
  · rename_i i hi
    have f := hT t i hi
    have fk := f.kind
    unfold aBuild
    rw [f.zero]
    simp only []
    split at h
    · rename_i fs hk
      rw [hk] at fk
      rw [fk.2.2.1]
      simp only []
      split at h
      · rename_i cs hcs; rw [hcs]; exact hK _ h
      · cases h
    · rename_i n e hk
      rw [hk] at fk
      rw [fk.2.2, fk.2.1]
      simp only []
      split at h
      · rename_i ei hei
        have g := hT e ei hei
        rw [g.sz]
        simp only []
        split at h
        · rename_i cs hcs; rw [hcs]; exact hK _ h
        · cases h
      · cases h
    · cases h
  · cases h

theorem xBuildSlice_sound {t : TypeId} {len : Nat} {parts : Array (Nat × Operand)} (h : xBuildSlice T s t len parts.toList K = some res) (hK : ∀ r, K r = some res → Kp r s) : aBuildSlice P s t len parts Kp := by
  unfold xBuildSlice at h
  split at h
  · rename_i i hi
    have f := hT t i hi
    have fk := f.kind
    split at h
    · rename_i e hk
      rw [hk] at fk
      unfold aBuildSlice
      rw [fk.1]
      simp only []
      split at h
      · rename_i ei hei
        have g := hT e ei hei
        rw [g.sz, g.zero]
        simp only [xif_some, Bool.and_eq_true, decide_eq_true_eq, beq_iff_eq, Option.bind_eq_some_iff, List.all_eq_true] at h ⊢
        obtain ⟨⟨⟨h1, h2⟩, h3⟩, es, h4, h5, h6⟩ := h
        refine ⟨h1, h2, h3, ?_⟩
        rw [xParts_some s h4]
        exact ⟨h5, hK _ h6⟩
      · cases h
    · cases h
  · cases h

omit hT in
theorem xobd_some {d n : Int} {o : Option Operand} (h : xobd s d o = some n) : obd s d o = some n := by
  cases o with
  | none => exact h
  | some o =>
    obtain ⟨k, h⟩ := xIx_some h
    simp only [obd, h]

omit hT in
theorem xSubS_some {l l' : List UInt8} {a b : Int} (h : xSubS l a b = some l') : 0 ≤ a ∧ a ≤ b ∧ b ≤ l.length ∧ l' = (l.take b.toNat).drop a.toNat := by
  unfold xSubS at h
  split at h
  · rename_i h0; simp only [Option.some.injEq] at h; exact ⟨h0.1, h0.2.1, h0.2.2, h.symm⟩
  · cases h
omit hT in
theorem xSubL_some {sz : Nat} {l l' : List (List D)} {a b : Int} (h : xSubL sz l a b = some l') : (∀ y ∈ l, y.length = sz) ∧ 0 ≤ a ∧ a ≤ b ∧ b ≤ l.length ∧ l' = (l.take b.toNat).drop a.toNat := by
  unfold xSubL at h
  split at h
  · rename_i h0; simp only [Option.some.injEq] at h; exact ⟨h0.1, h0.2.1, h0.2.2.1, h0.2.2.2, h.symm⟩
  · cases h

omit hT in
theorem slElems_nS {r : A} {es : List (List D)} (h : slElems r = some es) : ∀ l, r ≠ .one (.d (.s l)) := by
  rintro l rfl; simp [slElems] at h

theorem xSlice_sound {t : TypeId} {y : Operand} {lo hi mx : Option Operand} (h : xSlice T s t (aeval s y) lo hi mx K = some res) (hK : ∀ r, K r = some res → Kp r s) : aSlice P s t y lo hi mx Kp := by
  unfold xSlice at h
  split at h
  · rename_i i hi'
    have f := hT t i hi'
    have fk := f.kind
    split at h
    · rename_i hk
      rw [hk] at fk
      split at h
      · simp only [Option.bind_eq_some_iff] at h
        obtain ⟨l, hl, a, ha, b, hb, l', hs, h⟩ := h
        obtain ⟨h1, h2, h3, rfl⟩ := xSubS_some hs
        unfold aSlice
        simp only []
        rw [xS_some hl]
        simp only [xobd_some ha, xobd_some hb]
        exact ⟨fk.1, h1, h2, h3, hK _ h⟩
      · cases h
    · rename_i e hk
      rw [hk] at fk
      split at h
      · rename_i ei hei
        have g := hT e ei hei
        split at h
        · simp only [Option.bind_eq_some_iff] at h
          obtain ⟨l, hl, a, ha, b, hb, l', hs, h⟩ := h
          obtain ⟨h0, h1, h2, h3, rfl⟩ := xSubL_some hs
          unfold aSlice
          simp only []
          generalize aeval s y = r at *
          split
          · rename_i l0; exact absurd rfl (slElems_nS hl l0)
          · rw [fk.1]
            simp only [g.sz, hl, xobd_some ha, xobd_some hb]
            exact ⟨h0, h1, h2, h3, hK _ h⟩
        · rename_i m
          simp only [Option.bind_eq_some_iff, xif_some, Bool.and_eq_true, decide_eq_true_eq] at h
          obtain ⟨l, hl, a, ha, b, hb, c, hc, ⟨hs1, hcb⟩, l', hs, h⟩ := h
          obtain ⟨h0, h1, h2, h3, rfl⟩ := xSubL_some hs
          unfold aSlice
          simp only [fk.1, g.sz, hl, xobd_some ha, xobd_some hb, xobd_some hc]
          exact ⟨hs1, h0, h1, h2, h3, hcb, hK _ h⟩
      · cases h
    · cases h
  · cases h

theorem xLen_sound {t : TypeId} {y : Operand} (h : xLen T t (aeval s y) K = some res) (hK : ∀ r, K r = some res → Kp r s) : aLen P s t y Kp := by
  unfold xLen at h
  split at h
  · rename_i i hi
    have f := hT t i hi
    have fk := f.kind
    unfold aLen
    split at h
    · rename_i n e hk
      rw [hk] at fk
      rw [fk.2.1]
      exact hK _ h
    · rename_i hk
      rw [hk] at fk
      rw [fk.2.2]
      simp only [Option.bind_eq_some_iff] at h
      obtain ⟨l, hl, h⟩ := h
      rw [xS_some hl]
      exact ⟨fk.1, hK _ h⟩
    · rename_i e hk
      rw [hk] at fk
      rw [fk.2]
      simp only []
      split at h
      · rename_i ha
        rw [ha]
        exact ⟨by rw [fk.1]; rfl, hK _ h⟩
      · rename_i hne
        simp only [Option.bind_eq_some_iff] at h
        obtain ⟨es, he, h⟩ := h
        generalize aeval s y = r at *
        split
        · rename_i l0; exact absurd rfl (slElems_nS he l0)
        · exact absurd rfl (hne _ _ _ _ _)
        · rw [he]
          exact ⟨by rw [fk.1]; rfl, hK _ h⟩
    · cases h
  · cases h

theorem xAppend_sound {t : TypeId} {y z : Operand} (h : xAppend T s t (aeval s y) (aeval s z) Ks = some res) (hK : ∀ r s', Ks r s' = some res → Kp r s') : aAppend P s t y z Kp := by
  unfold xAppend at h
  split at h
  · rename_i i hi
    have f := hT t i hi
    have fk := f.kind
    split at h
    · rename_i e hk
      rw [hk] at fk
      split at h
      · rename_i ei hei
        have g := hT e ei hei
        simp only [xif_some, Bool.and_eq_true, decide_eq_true_eq, beq_iff_eq, Option.bind_eq_some_iff] at h
        obtain ⟨⟨⟨z1, z2⟩, z3⟩, xs, hxs, h⟩ := h
        unfold aAppend
        rw [fk.1]
        simp only []
        rw [g.sz, g.by_, g.zero]
        simp only [hxs]
        refine ⟨z1, z2, z3, ?_⟩
        split at h
        · rename_i es ha
          rw [ha]
          simp only [Option.bind_eq_some_iff] at h
          obtain ⟨es', he, h⟩ := h
          obtain ⟨_, h1, h2, h3, rfl⟩ := xApp_some he
          rw [List.length_append] at h
          exact ⟨h1, h2, h3, hK _ _ h⟩
        · rename_i es k ha
          rw [ha]
          split at h
          · rename_i e' len htip
            simp only [xif_some, beq_iff_eq, Option.bind_eq_some_iff] at h
            obtain ⟨rfl, es', he, h⟩ := h
            obtain ⟨rfl, h1, h2, h3, rfl⟩ := xApp_some he
            rw [List.length_append] at h
            exact ⟨h1, htip, h2, h3, hK _ _ h⟩
          · cases h
        · cases h
      · cases h
    · cases h
  · cases h

omit hT in
theorem xMin_sound {mn : Bool} {t : TypeId} {y z : Operand} (h : xMin T mn t (aeval s y) (aeval s z) K = some res) (hK : ∀ r, K r = some res → Kp r s) : aMin s mn y z Kp := by
  unfold xMin at h
  split at h
  · split at h
    · simp only [Option.bind_eq_some_iff] at h
      obtain ⟨a, ha, b, hb, h⟩ := h
      unfold aMin
      rw [xI_some ha, xI_some hb]
      exact hK _ h
    · cases h
  · cases h

theorem xMake_sound {t : TypeId} {y z : Operand} (h : xMake T s t (aeval s y) (aeval s z) Ks = some res) (hK : ∀ r s', Ks r s' = some res → Kp r s') : aMake P s t y z Kp := by
  unfold xMake at h
  simp only [Option.bind_eq_some_iff] at h
  obtain ⟨a, ha, b, hb, h⟩ := h
  obtain ⟨ka, ha⟩ := xIx_some ha
  obtain ⟨kb, hb⟩ := xIx_some hb
  split at h
  · rename_i i hi
    have f := hT t i hi
    have fk := f.kind
    split at h
    · rename_i e hk
      rw [hk] at fk
      split at h
      · rename_i ei hei
        have g := hT e ei hei
        simp only [xif_some, Bool.and_eq_true, decide_eq_true_eq, beq_iff_eq] at h
        obtain ⟨⟨h1, h2⟩, ⟨h3, h4, h5, h6⟩, h7⟩ := h
        unfold aMake
        rw [fk.1, ha, hb]
        simp only [g.sz, g.by_, g.zero]
        exact ⟨h1, h2, h3, h4, h5, h6, hK _ _ h7⟩
      · cases h
    · cases h
  · cases h

omit hT in
theorem xMakeFunc_sound {fn : Fn} {first captured : Array Operand} (h : xMakeFunc s fn first.toList captured.toList K = some res) (hK : ∀ r, K r = some res → Kp r s) : aMakeFunc s fn first captured Kp := by
  unfold xMakeFunc at h
  unfold aMakeFunc
  split at h
  · rename_i f h1 h2; rw [h1, h2]; exact hK _ h
  · rename_i f ids hne h1 h2
    rw [h1, h2]
    cases ids with
    | nil => exact (hne rfl).elim
    | cons => exact hK _ h
  · cases h

omit hT in
theorem xlows_nm {cs : List C} {ds : List D} (h : xlows cs = some ds) : cs.mapM low = some ds := by rw [← xlows_eq]; exact h

variable {Φ : Phi} (hΦ : ∀ g args r, Φ g args = some r → PCall P g args r)
include hΦ

omit hΦ in
theorem xRange_sound {t : TypeId} {y : Operand} (h : xRange T s t (aeval s y) Ks = some res) (hK : ∀ r s', Ks r s' = some res → Kp r s') : aRange P s t y Kp := by
  unfold xRange at h
  split at h
  · rename_i i hi
    split at h
    · rename_i hk
      simp only [Option.bind_eq_some_iff] at h
      obtain ⟨l, h1, h2⟩ := h
      have hkk := (hT t i hi).kind
      rw [hk] at hkk
      unfold aRange
      rw [xS_some h1]
      exact ⟨hkk.1, hK _ _ h2⟩
    · cases h
  · cases h
omit hT hΦ in
theorem xNext_sound {y : Operand} {b : Bool} (h : xNext s (aeval s y) b Ks = some res) (hK : ∀ r s', Ks r s' = some res → Kp r s') : aNext s y b Kp := by
  unfold xNext at h
  split at h
  · rename_i id hy
    split at h
    · rename_i l p ho
      simp only [xif_some] at h
      unfold aNext
      simp only [hy, ho]
      refine ⟨h.1, fun hp => ?_, fun hp => ?_⟩
      · rcases xite_some h.2 with ⟨_, h⟩ | ⟨hn, h⟩
        · exact hK _ _ h
        · exact absurd hp (by simpa using hn)
      · rcases xite_some h.2 with ⟨hn, h⟩ | ⟨_, h⟩
        · exact absurd (by simpa using hn) hp
        · exact hK _ _ h
    · cases h
  · cases h

omit hT hΦ in
theorem xMakeMap_sound {r : Option Operand} (h : xMakeMap s r Ks = some res) (hK : ∀ r s', Ks r s' = some res → Kp r s') : aMakeMap s r Kp := by
  unfold xMakeMap at h
  split at h
  · exact ⟨rfl, hK _ _ h⟩
  · cases h
omit hΦ in
theorem xmt_some {t : TypeId} {k : Option R} (h : xmt T t k = some res) : tmapB P t = true ∧ k = some res := by
  unfold xmt at h
  split at h
  · rename_i i hi
    have fk := (hT t i hi).kind
    split at h
    · rename_i hk; rw [hk] at fk; exact ⟨fk, h⟩
    · cases h
  · cases h
omit hΦ in
theorem xLookup_sound {t : TypeId} {y ix : Operand} {ok : Bool} (h : xLookup T s t (aeval s y) (aeval s ix) ok K = some res) (hK : ∀ r, K r = some res → Kp r s) : aLookup P s t y ix ok Kp := by
  unfold xLookup at h
  split at h
  · rename_i id c1 c2 hy hix
    split at h
    · rename_i es ho
      obtain ⟨ht, h7⟩ := xmt_some hT h
      simp only [Option.bind_eq_some_iff] at h7
      obtain ⟨a, ha, b, hb, h7⟩ := h7
      have ha := xI_some ha
      have hb := xI_some hb
      simp only [A.one.injEq] at ha hb
      subst ha; subst hb
      unfold aLookup
      simp only [hy, hix, ho]
      exact ⟨ht, hK _ h7⟩
    · cases h
  · cases h
omit hΦ in
theorem xMapUpdate_sound {t : TypeId} {y ix v : Operand} (h : xMapUpdate T s t (aeval s y) (aeval s ix) (aeval s v) Ks = some res) (hK : ∀ r s', Ks r s' = some res → Kp r s') : aMapUpdate P s t y ix v Kp := by
  unfold xMapUpdate at h
  split at h
  · rename_i id c1 c2 hy hix
    split at h
    · rename_i es ho
      obtain ⟨ht, h7⟩ := xmt_some hT h
      simp only [Option.bind_eq_some_iff, xif_some] at h7
      obtain ⟨a, ha, b, hb, l, hl, hn, h7⟩ := h7
      have ha := xI_some ha
      have hb := xI_some hb
      have hl := xS_some hl
      simp only [A.one.injEq] at ha hb
      subst ha; subst hb
      unfold aMapUpdate
      simp only [hy, hix, hl, ho]
      exact ⟨ht, hn, hK _ _ h7⟩
    · cases h
  · cases h

theorem xop_sound {o : Op} {ty : TypeId} (h : xop T Φ s o ty Ks = some res) (hK : ∀ r s', Ks r s' = some res → Kp r s') : aop0 P s o Kp := by
  cases o <;> simp only [xop, reduceCtorEq] at h
  case move x => exact hK _ _ h
  case assign x => exact hK _ _ h
  case pick c p q =>
    simp only [Option.bind_eq_some_iff] at h
    obtain ⟨b, hb, h⟩ := h
    unfold aop0
    simp only []
    rw [xB_some hb]
    rcases xite_some h with ⟨rfl, h⟩ | ⟨rfl, h⟩
    · exact ⟨fun _ => hK _ _ h, fun e => (by simp at e)⟩
    · exact ⟨fun e => (by simp at e), fun _ => hK _ _ h⟩
  case alloc e =>
    split at h
    · rename_i i hi
      unfold aop0
      simp only []
      unfold aAlloc
      rw [(hT e i hi).zero]
      exact hK _ _ h
    · cases h
  case box e y =>
    split at h
    · rename_i cs hcs
      unfold aop0
      simp only []
      unfold aBox
      rw [hcs]
      exact hK _ _ h
    · cases h
  case build t parts => exact xBuild_sound hT h fun r => hK r s
  case buildSlice t len parts => exact xBuildSlice_sound hT h fun r => hK r s
  case load t y => exact xLoad_sound hT h fun r => hK r s
  case store t y z => exact xStore_sound hT h hK
  case binOp op t y z t2 => exact xBin_sound hT h fun r => hK r s
  case unOp op t y => exact xUn_sound h fun r => hK r s
  case convert t1 t2 y => exact xConvert_sound hT h fun r => hK r s
  case makeFunc fn first captured => exact xMakeFunc_sound h fun r => hK r s
  case makeSlice t l c => exact xMake_sound hT h hK
  case slice t y lo hi mx => exact xSlice_sound hT h fun r => hK r s
  case fieldAddr t y i => exact xFieldAddr_sound hT h fun r => hK r s
  case field t y i => exact xField_sound hT h fun r => hK r s
  case indexAddr t y ix => exact xIndexAddr_sound hT h fun r => hK r s
  case index t y ix => exact xIndex_sound hT h fun r => hK r s
  case range t y => exact xRange_sound hT h hK
  case next y b => exact xNext_sound h hK
  case makeMap t r => exact xMakeMap_sound h hK
  case lookup t y ix ok => exact xLookup_sound hT h fun r => hK r s
  case mapUpdate t y ix v => exact xMapUpdate_sound hT h hK
  case extract y i => exact xExtract_sound h fun r hr => hK r s (xAn_some hr)
  case call c =>
    obtain ⟨callee, args, tys⟩ := c
    simp only [] at h
    unfold aop0
    simp only []
    split at h
    · rename_i f
      simp only []
      split at h
      · rename_i g caps hc
        rw [hc]
        simp only [Option.bind_eq_some_iff] at h
        obtain ⟨args', h1, r, h2, h3⟩ := h
        exact ACall.pure (hΦ _ _ _ h2) (xlowAs_some h1) (hK _ _ (xAn_some h3))
      · cases h
    · rename_i b
      simp only []
      split at h
      · rename_i y t ha ht
        simp only [ha, ht]
        exact xLen_sound hT h fun r => hK r s
      · rename_i y z t t' ha ht
        simp only [xif_some, beq_iff_eq] at h
        simp only [ha, ht]
        exact ⟨h.1, xAppend_sound hT h.2 hK⟩
      · rename_i y z ha
        simp only [ha]
        exact xMin_sound h fun r => hK r s
      · rename_i y z ha
        simp only [ha]
        exact xMin_sound h fun r => hK r s
      · cases h
    · cases h

theorem xop_sound_d {o : Op} {ty : TypeId} {kd : Op → OKd} (hkd : kd o = .plain) (h : xop T Φ s o ty Ks = some res) (hK : ∀ r s', Ks r s' = some res → Kp r s') : adop P kd s o Kp := by
  unfold adop
  rw [hkd]
  simp only []
  cases o
  case call c =>
    obtain ⟨callee, args, tys⟩ := c
    cases callee with
    | value f =>
      simp only [xop] at h
      simp only []
      split at h
      · rename_i g caps hc
        simp only [Option.bind_eq_some_iff] at h
        obtain ⟨args', h1, r, h2, h3⟩ := h
        exact ⟨g, caps, args', r, hc, xlowAs_some h1, hΦ _ _ _ h2, hK _ _ (xAn_some h3)⟩
      · cases h
    | invoke r m => simp [xop] at h
    | builtin b => exact .inl (xop_sound hT hΦ h hK)
  all_goals exact .inl (xop_sound hT hΦ h hK)

end
end Go.Av
