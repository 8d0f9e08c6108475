/-
  Slicing, making, and composite literals on an abstract state. Over any program. No toy.
-/
import Derived.Test.YtnfbgleaodkjpaaHvOps2
set_option linter.all false
namespace Go.Av
open Go.RowKit

section sound
variable {P : Program} {x : Ent} {s : St} {a : Act} {w : World} {K : A → St → Prop}

theorem obd_val (h : RepSt P x s a w) {dflt : Int} {o : Option Operand} {i : Int} (ho : obd s dflt o = some i) : (o = none ∧ i = dflt) ∨ ∃ k, o.map a.eval = some (.int k i) := by
  unfold obd at ho
  cases o with
  | none => simp at ho; exact .inl ⟨rfl, ho.symm⟩
  | some o =>
    simp only [] at ho
    split at ho
    · rename_i k j he
      simp only [Option.some.injEq] at ho
      subst ho
      exact .inr ⟨k, by simp [eval_v h he]⟩
    · cases ho

theorem run_bounds (w : World) (isSl : Bool) (len cap : Nat) (lo hi : Option Value) (a b : Int) (h0 : 0 ≤ a) (h1 : a ≤ b) (h2 : b ≤ len) (h3 : len ≤ cap)
    (hl : (lo = none ∧ a = 0) ∨ ∃ k, lo = some (.int k a)) (hh : (hi = none ∧ b = len) ∨ ∃ k, hi = some (.int k b)) :
    (Instr.sliceBounds isSl len cap lo hi none).run P w = .ok (a.toNat, b.toNat, cap) w := by
  have hb0 : 0 ≤ b := by omega
  have hbc : b ≤ cap := by omega
  rcases hl with ⟨rfl, rfl⟩ | ⟨k, rfl⟩ <;> rcases hh with ⟨rfl, rfl⟩ | ⟨k', rfl⟩
  · simp [Instr.sliceBounds]
  · simp [Instr.sliceBounds, run_sliceBound, hb0, hbc]
  · have e : a ≤ ((len : Nat) : Int) := by omega
    simp [Instr.sliceBounds, run_sliceBound, h0, e]
  · have e : a ≤ ((b.toNat : Nat) : Int) := by omega
    have r1 := fun code => run_sliceBound (P := P) (w := w) k' b cap code hb0 hbc
    have r2 := fun code => run_sliceBound (P := P) (w := w) k a b.toNat code h0 e
    simp only [Instr.sliceBounds, Sem.run_bind, Sem.run_pure, Result.andThen_ok, r1, r2]

theorem flat_drop {sz : Nat} : ∀ (es : List (List D)) (p : Nat), (∀ e ∈ es, e.length = sz) → (es.drop p).flatten = es.flatten.drop (p * sz)
  | es, 0, _ => by simp
  | [], p + 1, _ => by simp
  | e :: es, p + 1, h => by
    rw [List.drop_succ_cons, flat_drop es p (fun x hx => h x (List.mem_cons_of_mem _ hx)), List.flatten_cons, Nat.succ_mul, Nat.add_comm, ← List.drop_drop, List.drop_left' (h e (List.mem_cons_self ..))]
theorem flat_take {sz : Nat} : ∀ (es : List (List D)) (p : Nat), (∀ e ∈ es, e.length = sz) → (es.take p).flatten = es.flatten.take (p * sz)
  | es, 0, _ => by simp
  | [], p + 1, _ => by simp
  | e :: es, p + 1, h => by
    have hel := h e (List.mem_cons_self ..)
    rw [List.take_succ_cons, List.flatten_cons, flat_take es p (fun x hx => h x (List.mem_cons_of_mem _ hx)), List.flatten_cons, List.take_append,
      List.take_of_length_le (l := e) (by rw [hel, Nat.succ_mul]; omega)]
    congr 2; rw [hel, Nat.succ_mul]; omega

theorem RepD.sub {W : WSet} {es : List (List D)} {b0 : Nat} {off cap sz : Nat} (h : RepD w W (.sl es) (.slice (some ⟨b0, off, none⟩) es.length cap)) (hsz : ∀ e ∈ es, e.length = sz)
    (p q cap' : Nat) (hpq : p ≤ q) (hq : q ≤ es.length) (hc : q - p ≤ cap') : RepD w W (.sl ((es.take q).drop p)) (.slice (some ⟨b0, off + p * sz, none⟩) (q - p) cap') := by
  have hlen : ((es.take q).drop p).length = q - p := by simp; omega
  cases h with
  | nil => simp at hq; subst hq; simp; exact .nil _ _
  | sl _ sz' _ _ _ f hsz' hcap hcell hrep =>
    have hmem : ∀ e ∈ (es.take q).drop p, e.length = sz := fun e he => hsz e (List.mem_of_mem_take (List.mem_of_mem_drop he))
    have hfl : ((es.take q).drop p).flatten.length = (q - p) * sz := by rw [length_flat hmem, hlen]
    have hfe : es.flatten.length = es.length * sz := length_flat hsz
    have hat : ∀ k, k < (q - p) * sz → ((es.take q).drop p).flatten[k]? = es.flatten[p * sz + k]? := by
      intro k hk
      have h1 : p * sz + (q - p) * sz = q * sz := by rw [← Nat.add_mul]; congr 1; omega
      rw [flat_drop _ _ (fun e he => hsz e (List.mem_of_mem_take he)), flat_take _ _ hsz, List.getElem?_drop, List.getElem?_take, if_pos (by omega)]
    rw [← hlen]
    refine RepD.sl _ sz b0 (off + p * sz) cap' (fun k => f (p * sz + k)) hmem (by omega) (fun k hk => ?_) (fun k c hk => ?_)
    · rw [hfl] at hk
      have : p * sz + k < es.flatten.length := by
        rw [hfe]
        have h1 : p * sz + (q - p) * sz = q * sz := by rw [← Nat.add_mul]; congr 1; omega
        have h2 := Nat.mul_le_mul_right sz hq
        omega
      have := hcell _ this
      rwa [← Nat.add_assoc] at this
    · have hkl : k < (q - p) * sz := by rw [← hfl]; exact (List.getElem?_eq_some_iff.1 hk).1
      rw [hat k hkl] at hk
      exact hrep _ c hk

theorem optmap_lo (h : RepSt P x s a w) {dflt i : Int} {o : Option Operand} (ho : obd s dflt o = some i) : (o.map a.eval = none ∧ i = dflt) ∨ ∃ k, o.map a.eval = some (.int k i) := by
  rcases obd_val h ho with ⟨rfl, rfl⟩ | h
  · exact .inl ⟨rfl, rfl⟩
  · exact .inr h

theorem RepD.slice_shape {W : WSet} {es : List (List D)} {v : Value} (h : RepD w W (.sl es) v) : ∃ base cap, v = .slice base es.length cap ∧ (es = [] ∨ (es.length ≤ cap ∧ ∃ b off, base = some ⟨b, off, none⟩)) := by
  cases h with
  | nil base cap => exact ⟨base, cap, rfl, .inl rfl⟩
  | sl _ sz b off cap f hsz hcap => exact ⟨_, cap, rfl, .inr ⟨hcap, b, off, rfl⟩⟩

theorem toNat_sub' {p q : Int} (h0 : 0 ≤ p) (h : p ≤ q) : q.toNat - p.toNat = (q - p).toNat := by omega

theorem aSlice_sound (h : RepSt P x s a w) {t : TypeId} {y : Operand} {lo hi mx : Option Operand} (hK : aSlice P s t y lo hi mx K) :
    OpOK P x s a w (do pure (.value (← Instr.sliceAt t (a.eval y) (lo.map a.eval) (hi.map a.eval) (mx.map a.eval)))) K := by
  unfold aSlice at hK
  split at hK
  · split at hK
    · rename_i l hy
      split at hK
      · rename_i p q hp hq
        obtain ⟨ht, h0, h1, h2, hK⟩ := hK
        have hu := tstr_und ht
        rw [eval_s h hy]
        have g1 : ∀ l : List UInt8, (⟨l.toArray⟩ : ByteArray).size = l.length := fun l => by simp [ByteArray.size]
        refine OpOK.pure h (v := .string ⟨((l.take q.toNat).drop p.toNat).toArray⟩) ?_ (fun _ _ _ => RepA.s _) hK
        have hb := run_bounds (P := P) w false l.length l.length (lo.map a.eval) (hi.map a.eval) p q h0 h1 h2 (Nat.le_refl _) (optmap_lo h hp) (optmap_lo h hq)
        have hex : (⟨l.toArray⟩ : ByteArray).extract p.toNat q.toNat = ⟨((l.take q.toNat).drop p.toNat).toArray⟩ := by
          apply ByteArray.ext
          simp [List.drop_take]
        simp only [Option.map_none, Instr.sliceAt, Sem.run_bind, run_underlying hu, Result.andThen_ok, Instr.slice, Option.isSome_none, Bool.false_eq_true, if_false, g1, hb, Sem.run_pure, hex]
      · exact hK.elim
    · split at hK
      · rename_i e he
        have hu := telem_und he
        split at hK
        · rename_i sz hs
          have hrun : ∀ (base : Option Addr) (len cap : Nat) (p q : Int), 0 ≤ p → p ≤ q → q ≤ len → len ≤ cap → obd s 0 lo = some p → obd s len hi = some q →
              (Instr.sliceAt t (.slice base len cap) (lo.map a.eval) (hi.map a.eval) none).run P w =
                .ok (.slice (if cap = p.toNat then base else base.map (·.add (p.toNat * sz))) (q.toNat - p.toNat) (cap - p.toNat)) w := fun base len cap p q h0 h1 h2 h3 hp hq => by
            have hb := run_bounds (P := P) w true len cap (lo.map a.eval) (hi.map a.eval) p q h0 h1 h2 h3 (optmap_lo h hp) (optmap_lo h hq)
            simp only [Instr.sliceAt, Sem.run_bind, run_underlying hu, Result.andThen_ok, Instr.slice, hb, run_sizeOf hs, Sem.run_pure]
          split at hK
          · rename_i es hes
            split at hK
            · rename_i p q hp hq
              obtain ⟨hel, h0, h1, h2, hK⟩ := hK
              obtain ⟨h1', h2', E, h3, h4⟩ := id h
              have hd := slElems_rep (aeval_rep h4 y) hes
              obtain ⟨base, cap, hv, hcase⟩ := hd.slice_shape
              rw [hv] at hd
              rcases hcase with rfl | ⟨hcap, b, off, rfl⟩
              · have hp0 : p = 0 := by simp at h2; omega
                have hq0 : q = 0 := by simp at h2; omega
                subst hp0; subst hq0
                have hr := hrun base 0 cap 0 0 (by omega) (by omega) (by simp) (Nat.zero_le _) hp hq
                refine ⟨.slice (if cap = 0 then base else base.map (·.add 0)) 0 cap, w, _, s, .inl ?_, ⟨h1', h2', E, h3, h4, .one (.d (.sl [])) _ (RepD.nil _ _)⟩, by simpa using hK, rfl⟩
                rw [hv]; simp only [List.length_nil] at hr ⊢; simp at hr; simp [hr]
              · have hr := hrun (some ⟨b, off, none⟩) es.length cap p q h0 h1 h2 hcap hp hq
                by_cases hcp : cap = p.toNat
                · have hqe : q = p := by omega
                  subst hqe
                  have hnil : (es.take q.toNat).drop q.toNat = [] := by simp
                  rw [hnil] at hK
                  refine ⟨_, w, _, s, .inl ?_, ⟨h1', h2', E, h3, h4, .one (.d (.sl [])) _ (RepD.nil (some ⟨b, off, none⟩) (cap - q.toNat))⟩, hK, rfl⟩
                  subst hcp
                  rw [hv]; simp [hr]
                · refine ⟨_, w, _, s, .inl ?_, ⟨h1', h2', E, h3, h4, .one (.d (.sl _)) _ (RepD.sub hd hel p.toNat q.toNat (cap - p.toNat) (by omega) (by omega) (by omega))⟩, hK, rfl⟩
                  rw [hv]; simp [hr, hcp, add_none]
            · exact hK.elim
          · split at hK
            · rename_i idn off len cap sz' hev
              split at hK
              · rename_i p q hp hq
                obtain ⟨rfl, h0, h1, h2, h5, hK1, hK2⟩ := hK
                obtain ⟨h1', h2', E, h3, h4⟩ := id h
                have hr0 := aeval_rep h4 y
                rw [hev] at hr0
                obtain ⟨hlt, hv⟩ := one_inv hr0
                have hr := hrun (some ⟨E.β idn, off, none⟩) len cap p q h0 h1 h2 h5 hp hq
                by_cases hpq : p < q
                · have hcp : ¬ cap = p.toNat := by omega
                  refine ⟨_, w, _, s, .inl ?_, ⟨h1', h2', E, h3, h4, .one (.msl idn (off + p.toNat * sz') (q - p).toNat (cap - p.toNat) sz') _ ⟨hlt, rfl⟩⟩, hK1 hpq, rfl⟩
                  rw [hv]; simp [hr, hcp, add_none, toNat_sub' h0 h1]
                · have hqe : p = q := by omega
                  subst hqe
                  refine ⟨_, w, _, s, .inl ?_, ⟨h1', h2', E, h3, h4, .one (.d (.sl [])) _ (RepD.nil (if cap = p.toNat then some ⟨E.β idn, off, none⟩ else (some (⟨E.β idn, off, none⟩ : Addr)).map (·.add (p.toNat * sz'))) (cap - p.toNat))⟩, hK2 rfl, rfl⟩
                  rw [hv]; simp [hr]
              · exact hK.elim
            · exact hK.elim
        · exact hK.elim
      · exact hK.elim
  · rename_i m
    split at hK
    · rename_i e he
      have hu := telem_und he
      split at hK
      · rename_i sz hs
        split at hK
        · rename_i es hes
          split at hK
          · rename_i p q c hp hq hc
            obtain ⟨hhi, hel, h0, h1, h2, rfl, hK⟩ := hK
            obtain ⟨h1', h2', E, h3, h4⟩ := id h
            have hd := slElems_rep (aeval_rep h4 y) hes
            obtain ⟨base, cap, hv, hcase⟩ := hd.slice_shape
            rw [hv] at hd
            obtain ⟨km, hkm⟩ : ∃ k, a.eval m = .int k c := by
              rcases obd_val h hc with ⟨h, _⟩ | ⟨k, h⟩
              · cases h
              · exact ⟨k, by simpa using h⟩
            obtain ⟨oh, rfl⟩ := Option.isSome_iff_exists.1 hhi
            obtain ⟨kh, hkh⟩ : ∃ k, a.eval oh = .int k c := by
              rcases obd_val h hq with ⟨h, _⟩ | ⟨k, h⟩
              · cases h
              · exact ⟨k, by simpa using h⟩
            have hc0 : 0 ≤ c := by omega
            have hlo := optmap_lo h hp
            have hrun : ∀ (base : Option Addr) (cap : Nat), es.length ≤ cap → (Instr.sliceAt t (.slice base es.length cap) (lo.map a.eval) ((some oh).map a.eval) ((some m).map a.eval)).run P w =
                .ok (.slice (if c.toNat = p.toNat then base else base.map (·.add (p.toNat * sz))) (c.toNat - p.toNat) (c.toNat - p.toNat)) w := fun base cap hcap => by
              have hcc : c ≤ cap := by omega
              have e2 : c ≤ ((c.toNat : Nat) : Int) := by omega
              have e3 : p ≤ ((c.toNat : Nat) : Int) := by omega
              have r1 := fun code => run_sliceBound (P := P) (w := w) km c cap code hc0 hcc
              have r2 := fun code => run_sliceBound (P := P) (w := w) kh c c.toNat code hc0 e2
              rcases hlo with ⟨hlo, rfl⟩ | ⟨kl, hlo⟩
              · simp [Instr.sliceAt, run_underlying hu, Instr.slice, Instr.sliceBounds, hkm, hkh, hlo, r1, r2, run_sizeOf hs]
              · have r3 := fun code => run_sliceBound (P := P) (w := w) kl p c.toNat code h0 e3
                simp [Instr.sliceAt, run_underlying hu, Instr.slice, Instr.sliceBounds, hkm, hkh, hlo, r1, r2, r3, run_sizeOf hs]
            have hfl : ((es.take c.toNat).drop p.toNat).length = c.toNat - p.toNat := by simp; omega
            rcases hcase with rfl | ⟨hcap, b, off, rfl⟩
            · have hp0 : p = 0 := by simp at h2; omega
              have hq0 : c = 0 := by simp at h2; omega
              subst hp0; subst hq0
              have hr := hrun base cap (Nat.zero_le _)
              refine ⟨.slice base 0 0, w, .one (.full []), s, .inl ?_, ⟨h1', h2', E, h3, h4, .one _ _ ⟨RepD.nil _ _, base, rfl⟩⟩, by simpa using hK, rfl⟩
              rw [hv]; simp only [Sem.run_bind, hr, Result.andThen_ok, Sem.run_pure]; simp
            · have hr := hrun (some ⟨b, off, none⟩) cap hcap
              by_cases hcp : c.toNat = p.toNat
              · have hnil : (es.take c.toNat).drop p.toNat = [] := by rw [hcp]; simp
                rw [hnil] at hK
                refine ⟨.slice (some ⟨b, off, none⟩) 0 0, w, .one (.full []), s, .inl ?_, ⟨h1', h2', E, h3, h4, .one _ _ ⟨RepD.nil _ _, some ⟨b, off, none⟩, rfl⟩⟩, hK, rfl⟩
                rw [hv]; simp only [Sem.run_bind, hr, Result.andThen_ok, Sem.run_pure]; simp [hcp]
              · have hsub := RepD.sub hd hel p.toNat c.toNat (c.toNat - p.toNat) (by omega) (by omega) (Nat.le_refl _)
                refine ⟨.slice (some ⟨b, off + p.toNat * sz, none⟩) (c.toNat - p.toNat) (c.toNat - p.toNat), w, .one (.full _), s, .inl ?_, ⟨h1', h2', E, h3, h4, .one _ _ ⟨hsub, some ⟨b, off + p.toNat * sz, none⟩, by rw [hfl]⟩⟩, hK, rfl⟩
                rw [hv]; simp only [Sem.run_bind, hr, Result.andThen_ok, Sem.run_pure]; simp [hcp, add_none]
          · exact hK.elim
        · exact hK.elim
      · exact hK.elim
    · exact hK.elim

theorem getElem?_madeCells (z : Array Value) (n k : Nat) (hk : k < n) : (madeCells z n)[k]? = some (z[k % z.size]!) := by
  simp [madeCells, hk]

theorem flat_replicate {α : Type} (z : List α) (n k : Nat) (hk : k < n * z.length) : (List.replicate n z).flatten[k]? = z[k % z.length]? := by
  induction n generalizing k with
  | zero => simp at hk
  | succ n ih =>
    rw [List.replicate_succ, List.flatten_cons]
    have hz : 0 < z.length := by
      rcases Nat.eq_zero_or_pos z.length with h | h
      · rw [h] at hk; simp at hk
      · exact h
    by_cases h : k < z.length
    · rw [List.getElem?_append_left h, Nat.mod_eq_of_lt h]
    · have e : (n + 1) * z.length = n * z.length + z.length := Nat.succ_mul ..
      rw [List.getElem?_append_right (by omega), ih _ (by omega), Nat.mod_eq_sub_mod (a := k) (by omega)]

theorem aMake_sound (hx : x.ok) (h : RepSt P x s a w) {t : TypeId} {l c : Operand} (hK : aMake P s t l c K) : OpOK P x s a w (do pure (.value (← Instr.makeSlice t (a.eval l) (a.eval c)))) K := by
  unfold aMake at hK
  split at hK
  · rename_i e kl p kc q he hl hc
    have hu := telem_und he
    split at hK
    · rename_i sz by_ zc hsz hby hzero
      obtain ⟨hzl, hsz0, rfl, h0, h63, hb, hK⟩ := hK
      obtain ⟨i, hi, hisz⟩ := tsz_info hsz
      have hiby : i.bytes = by_ := by unfold tbytes at hby; simpa [hi] using hby
      obtain ⟨zv, hzv, hzc⟩ : ∃ zv, i.zero = some zv ∧ (aval zv).cells = some zc := by
        unfold tzero at hzero
        cases hzz : i.zero with
        | none => simp [hi, hzz] at hzero
        | some zv => simp only [hi, hzz, Option.bind_some] at hzero; exact ⟨zv, rfl, hzero⟩
      subst hisz
      subst hiby
      rw [eval_v h hl, eval_v h hc]
      have hrun := run_make (P := P) w t e i zv hu hi hzv kl kc p p h0 (Int.le_refl _) hb h63
      have hrep : ∀ (W : WSet) (E : Env), zv.cells.toList.length = zc.length ∧ ∀ (k : Nat) (c : C), zc[k]? = some c → RepC w W E c (zv.cells.toList.getD k undef) := fun W E => values_of_cells (.aval zv) hzc
      have hzs : zv.cells.size = i.size := by
        have := (hrep (fun _ _ => False) x.E0).1
        rw [← hzl]; simpa using this
      have hfl : (List.replicate p.toNat zc).flatten.length = p.toNat * i.size := by simp [hzl]
      have hnew := RepSV.new hx h (List.replicate p.toNat zc).flatten (madeCells zv.cells (p.toNat * i.size)) e (by rw [size_madeCells, hfl]) (fun E _ _ k c hk => by
        have hkl : k < p.toNat * zc.length := by rw [hzl, ← hfl]; exact (List.getElem?_eq_some_iff.1 hk).1
        rw [flat_replicate _ _ _ hkl] at hk
        have := (hrep (Wn x s E) E).2 _ c hk
        rw [Array.getD_eq_getD_getElem?, getElem?_madeCells _ _ _ (by rw [← hzl]; exact hkl), hzs, ← hzl]
        rw [hzl] at hk this ⊢
        have hlt : k % i.size < zv.cells.size := by rw [hzs]; exact Nat.mod_lt _ hsz0
        simp only [Option.getD_some]
        rw [List.getD_eq_getElem?_getD, Array.getElem?_toList] at this
        simpa [hlt] using this)
      obtain ⟨g1, g2, E, g3, g4, g5⟩ := hnew
      refine ⟨_, _, _, _, .inl (by simp [hrun]; rfl), ⟨g1, g2, E, g3, g4, .one (.msl s.n 0 p.toNat p.toNat i.size) _ ?_⟩, hK, rfl⟩
      obtain ⟨hlt, hv⟩ := one_inv g5
      refine ⟨hlt, ?_⟩
      simp only [Value.pointer.injEq, Option.some.injEq, Addr.mk.injEq] at hv
      rw [hv.1]
    · exact hK.elim
  · exact hK.elim

end sound

/-- Composite literals. -/
def aFill (place : Nat → Option (Nat × Nat)) : List C → List (Nat × A) → Option (List C)
  | cs, [] => some cs
  | cs, (i, r) :: rest => match place i, r.cells with
    | some (off, sz), some ys => if ys.length = sz ∧ off + sz ≤ cs.length then aFill place (rpl cs off ys) rest else none
    | _, _ => none

theorem foldl_set (off : Nat) : ∀ (l : List Value) (j : Nat) (cs : Array Value), (l.zipIdx j).foldl (fun cs p => cs.setIfInBounds (off + p.2) p.1) cs =
    (l.zipIdx j).foldl (fun cs p => cs.setIfInBounds (off + p.2) p.1) cs := fun _ _ _ => rfl

theorem foldl_rpl (off : Nat) : ∀ (l : List Value) (j : Nat) (cs : Array Value), off + j + l.length ≤ cs.size →
    ((l.zipIdx j).foldl (fun cs p => cs.setIfInBounds (off + p.2) p.1) cs).toList = rpl cs.toList (off + j) l
  | [], j, cs, _ => by simp [rpl]
  | v :: l, j, cs, h => by
    simp only [List.length_cons] at h
    rw [List.zipIdx_cons, List.foldl_cons, foldl_rpl off l (j + 1) _ (by simp; omega)]
    apply List.ext_getElem?
    intro k
    rw [getElem?_rpl _ _ _ (by simp; omega), getElem?_rpl _ _ _ (by simp; omega)]
    simp only [Array.toList_setIfInBounds, List.length_cons]
    rw [List.getElem?_set]
    by_cases h1 : k < off + j
    · have h2 : ¬ off + j = k := by omega
      have h3 : k < off + (j + 1) := by omega
      simp [h1, h2, h3]
    · by_cases h4 : k = off + j
      · subst h4
        have h3 : off + j < off + (j + 1) := by omega
        have h5 : off + j < cs.toList.length := by simp; omega
        have h6 : off + j < cs.size := by omega
        simp [h3, h6]
      · have h2 : ¬ off + j = k := by omega
        have h3 : ¬ k < off + (j + 1) := by omega
        by_cases h5 : k < off + (j + 1) + l.length
        · have h6 : k < off + j + (l.length + 1) := by omega
          have h7 : k - (off + j) = (k - (off + (j + 1))) + 1 := by omega
          simp [h1, h3, h5, h6, h7]
        · have h6 : ¬ k < off + j + (l.length + 1) := by omega
          simp [h1, h2, h3, h5, h6]

theorem fill_sound {w : World} {W : WSet} {E : Env} (place : Nat → Option (Nat × Nat)) : ∀ (parts : List (Nat × A)) (vals : List (Nat × Value)) (cs : List C) (cells : Array Value) (cs' : List C),
    parts.length = vals.length → (∀ (k i j : Nat) (r : A) (v : Value), parts[k]? = some (i, r) → vals[k]? = some (j, v) → i = j ∧ RepA w W E r v) →
    cells.size = cs.length → (∀ (k : Nat) (c : C), cs[k]? = some c → RepC w W E c (cells.getD k undef)) → aFill place cs parts = some cs' →
    ∃ cells', Instr.fill place cells vals = some cells' ∧ cells'.size = cs'.length ∧ ∀ (k : Nat) (c : C), cs'[k]? = some c → RepC w W E c (cells'.getD k undef)
  | [], [], cs, cells, cs', _, _, hl, hr, h => by
    simp only [aFill, Option.some.injEq] at h; subst h
    exact ⟨cells, rfl, hl, hr⟩
  | (i, r) :: rest, (j, v) :: vals, cs, cells, cs', hlen, hp, hl, hr, h => by
    obtain ⟨rfl, hrv⟩ := hp 0 i j r v rfl rfl
    unfold aFill at h
    split at h
    · rename_i off sz ys hpl hys
      split at h
      · rename_i hcond
        obtain ⟨hv1, hv2⟩ := values_of_cells hrv hys
        have hvs : v.cells.size = sz := by have := hv1; simp at this; omega
        unfold Instr.fill
        simp only [hpl]
        rw [if_neg (by simp [hvs]; omega)]
        have hfold : (v.cells.zipIdx.foldl (fun cs (p : Value × Nat) => cs.setIfInBounds (off + p.2) p.1) cells).toList = rpl cells.toList off v.cells.toList := by
          have := foldl_rpl off v.cells.toList 0 cells (by simp; omega)
          rw [Nat.add_zero] at this
          rw [← this, ← Array.foldl_toList]
          simp
        have hsz2 : (v.cells.zipIdx.foldl (fun cs (p : Value × Nat) => cs.setIfInBounds (off + p.2) p.1) cells).size = (rpl cs off ys).length := by
          rw [← Array.length_toList, hfold, length_rpl _ _ _ (by simp; omega), length_rpl _ _ _ (by omega)]; simpa using hl
        refine fill_sound place rest vals (rpl cs off ys) _ cs' (by simpa using hlen) (fun k i j r v h1 h2 => hp (k + 1) i j r v (by simpa using h1) (by simpa using h2)) hsz2 (fun k c hk => ?_) h
        rw [getElem?_rpl _ _ _ (by omega)] at hk
        rw [Array.getD_eq_getD_getElem?, ← Array.getElem?_toList, hfold, getElem?_rpl _ _ _ (by simp; omega), hv1]
        split
        · rename_i h1; rw [if_pos h1] at hk; rw [Array.getElem?_toList, ← Array.getD_eq_getD_getElem?]; exact hr k c hk
        · rename_i h1
          rw [if_neg h1] at hk
          split
          · rename_i h2; rw [if_pos h2] at hk; rw [← List.getD_eq_getElem?_getD]; exact hv2 _ c hk
          · rename_i h2; rw [if_neg h2] at hk; rw [Array.getElem?_toList, ← Array.getD_eq_getD_getElem?]; exact hr k c hk
      · cases h
    · cases h
  | [], _ :: _, _, _, _, h, _, _, _, _ => by simp at h
  | _ :: _, [], _, _, _, h, _, _, _, _ => by simp at h

end Go.Av
