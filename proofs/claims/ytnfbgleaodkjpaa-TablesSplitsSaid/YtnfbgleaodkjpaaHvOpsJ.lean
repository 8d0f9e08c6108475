/-
  Operations on blocks under counted names, 3: append, copy, clear, cap. Over any program. No toy.
-/
import Derived.Test.YtnfbgleaodkjpaaHvOpsI
import Derived.Lib.AppendZerosOnto
set_option linter.all false
namespace Go.Av
open Go.RowKit

section runs
variable {P : Program} (w : World)

theorem addr_add (g off j : Nat) : (⟨g, off, none⟩ : Addr).add j = ⟨g, off + j, none⟩ := by unfold Addr.add; split <;> simp_all

theorem news_of {w : World} {g off n : Nat} {us : List Value} (hl : us.length = n) (h : ∀ j, j < n → w.cell? ⟨g, off + j, none⟩ = some (us.getD j undef)) :
    ∀ j v, us[j]? = some v → w.cell? ((⟨g, off, none⟩ : Addr).add j) = some v := fun j v hj => by
  have hlt : j < us.length := (List.getElem?_eq_some_iff.1 hj).1
  rw [addr_add, h j (by omega), List.getD_eq_getElem?_getD, hj]; rfl

theorem run_app_room (t ty e : TypeId) (i : TypeInfo) (ht : P.underlying t = some (.slice e)) (hi : P.info? e = some i) (hs : i.size = 1) (g off len cap n c : Nat) (old : Array Value) (tg : TypeId)
    (hg : w.heap[g]? = some (.cells old tg (0, 0))) (ug uo : Nat) (us : List Value) (hul : us.length = n) (hu : ∀ j, j < n → w.cell? ⟨ug, uo + j, none⟩ = some (us.getD j undef)) (h1 : ∀ u ∈ us, u.oneCell' = true)
    (hroom : len + n ≤ cap) (hfit : off + len + us.length ≤ old.size) :
    (Builtin.append_ #[t, t] ty #[.slice (some ⟨g, off, none⟩) len cap, .slice (some ⟨ug, uo, none⟩) n c]).run P w =
      .ok (.slice (some ⟨g, off, none⟩) (len + n) cap) (w.setRow g (old.toList.take (off + len) ++ us ++ old.toList.drop (off + len + us.length)).toArray) := by
  have hf := run_firstCells_some (P := P) w 1 n ⟨ug, uo, none⟩ n c us (by omega) (news_of hul hu)
  have hst := run_storeCells_at P g (off + len) tg us 0 old w hg (by simpa using hfit) h1
  simp only [Nat.add_zero] at hst
  simp [Builtin.append_, run_underlying ht, sizeOf, typeInfo, hi, hs, Builtin.lenOf, hroom, hf, addr_add, hst]

theorem run_app_grow (t ty e : TypeId) (i : TypeInfo) (z : Value) (ht : P.underlying t = some (.slice e)) (hi : P.info? e = some i) (hz : i.zero = some z) (hs : i.size = 1) (b : Option Addr) (len cap n c : Nat)
    (olds : List Value) (hol : olds.length = len) (hb : (b = none ∧ len = 0 ∧ cap = 0) ∨ (∃ a, b = some a ∧ len = 0) ∨ ∃ g off, b = some ⟨g, off, none⟩ ∧ ∀ j, j < len → w.cell? ⟨g, off + j, none⟩ = some (olds.getD j undef))
    (ug uo : Nat) (us : List Value) (hul : us.length = n) (hu : ∀ j, j < n → w.cell? ⟨ug, uo + j, none⟩ = some (us.getD j undef)) (hn : 0 < n) (hroom : cap < len + n) (hlc : len ≤ cap) (h63 : len + n ≤ 9223372036854775807) (hbytes : (len + n) * i.bytes ≤ 140737488355328) :
    (Builtin.append_ #[t, t] ty #[.slice b len cap, .slice (some ⟨ug, uo, none⟩) n c]).run P w =
      .ok (.slice (some ⟨w.heap.size, 0, none⟩) (len + n) (grownCap w (len + n) cap e)) (w.drew.alloc (.cells (olds.toArray ++ us.toArray ++ Builtin.zeroCells z.cells (grownCap w (len + n) cap e - (len + n))) e)) := by
  have hnews := news_of hul hu
  have hfit := growslice_fits (need := len + n) (old := cap) (bytes := i.bytes) hroom hbytes
  rcases hb with ⟨rfl, rfl, rfl⟩ | ⟨a, rfl, rfl⟩ | ⟨g, off, rfl, hc⟩
  · have hl0 : olds = [] := List.eq_nil_of_length_eq_zero hol
    subst hl0
    simp only [Nat.zero_add, Array.empty_append]
    exact run_append_nil (P := P) w t ty e i z ht hi hz ⟨ug, uo, none⟩ n c us (by rw [hul, hs, Nat.mul_one]) hnews hn (by omega) (by simp only [Nat.zero_add] at hbytes; omega)
  · have hl0 : olds = [] := List.eq_nil_of_length_eq_zero hol
    subst hl0
    exact run_append_grow (P := P) w t ty e i z ht hi hz a 0 cap [] (by simp) (by simp) ⟨ug, uo, none⟩ n c us (by rw [hul, hs, Nat.mul_one]) hnews hroom (by omega) hfit
  · exact run_append_grow (P := P) w t ty e i z ht hi hz ⟨g, off, none⟩ len cap olds (by rw [hol, hs, Nat.mul_one]) (news_of hol hc) ⟨ug, uo, none⟩ n c us (by rw [hul, hs, Nat.mul_one]) hnews hroom (by omega) hfit
end runs

section sound
variable {P : Program} {x : Ent} {s : St} {a : Act} {w : World} {K : A → St → Prop}

theorem cap_le_of {n by_ : Nat} (h0 : 0 < by_) (h : n * by_ ≤ 140737488355328) : n ≤ 140737488355328 := by
  have := Nat.mul_le_mul_left n h0; omega

/-- The grown block's cells. -/
theorem grown_get (z : Value) (olds us : List Value) (m i : Nat) : (olds.toArray ++ us.toArray ++ Builtin.zeroCells z.cells m).getD i undef = if i < olds.length then olds.getD i undef else if i < olds.length + us.length then us.getD (i - olds.length) undef else
    (olds.toArray ++ us.toArray ++ Builtin.zeroCells z.cells m).getD i undef := by
  split
  · rename_i h
    have h1 : i < olds.toArray.size := by simpa using h
    have h2 : i < (olds.toArray ++ us.toArray).size := by simp; omega
    rw [Array.getD_eq_getD_getElem?, Array.getElem?_append_left h2, Array.getElem?_append_left h1, List.getElem?_toArray, ← List.getD_eq_getElem?_getD]
  · rename_i h
    split
    · rename_i h'
      have h1 : olds.toArray.size ≤ i := by simpa using h
      have h2 : i < (olds.toArray ++ us.toArray).size := by simp; omega
      rw [Array.getD_eq_getD_getElem?, Array.getElem?_append_left h2, Array.getElem?_append_right h1, List.getElem?_toArray, ← List.getD_eq_getElem?_getD]
      simp
    · rfl

theorem ahApp_sound (h : RepSt P x s a w) {t ty e : TypeId} {y z : Operand} {by_ n : Nat} {zc v u : C} {ys : List C} {p : C × Hp} (he : sl1 P t e) (hby : tbytes P e = some by_) (hby0 : 0 < by_) (hz : zcell P e = some zc)
    (hy : aeval s y = .one v) (hn : hLen v = some n) (hzz : aeval s z = .one u) (hys : hCells s.H u = some ys) (hsz : (n + ys.length) * by_ ≤ 140737488355328) (hp : hApp s.H v ys = some p) (hK : K (.one p.1) (s.hput p.2)) :
    OpOK P x s a w (do pure (.value (← Builtin.append_ #[t, t] ty #[a.eval y, a.eval z]))) K := by
  obtain ⟨hte, hts⟩ := he
  have hu := telem_und hte
  obtain ⟨hzk, i, zv, hi, hzv, hzs, hzr⟩ := zcell_some w hz
  obtain ⟨i', hi', his⟩ := tsz_info hts
  rw [hi] at hi'
  cases hi'
  have hiby : i.bytes = by_ := by unfold tbytes at hby; simpa [hi] using hby
  subst hiby
  have h63 := cap_le_of hby0 hsz
  obtain ⟨h1, h2, E, h3, h4⟩ := h
  have hv := aeval_rep h4 y
  rw [hy] at hv
  replace hv := one_inv hv
  have hzv' := aeval_rep h4 z
  rw [hzz] at hzv'
  obtain ⟨ub, uc, us, huval, hul, hur, huc⟩ := hCells_rep h3 (one_inv hzv') hys
  rw [huval]
  have huone := us_one hul hur
  cases ys with
  | nil =>
    simp only [hApp] at hp
    split at hp
    · simp only [Option.some.injEq] at hp
      subst hp
      obtain ⟨b, cap, hvv⟩ := hLen_val hv hn
      have hval : a.eval y = .slice b n cap ∧ n ≤ cap := by rcases hvv with ⟨g1, g2⟩ | ⟨g1, g2⟩ <;> exact ⟨by first | exact g1 | exact g2, by omega⟩
      have hrun := run_append_zero P w t ty e i hu hi b ub n cap uc hval.2
      refine ⟨a.eval y, w, _, s, .inl ?_, ⟨h1, h2, E, h3, h4, .one v _ hv⟩, by rw [show s.hput s.H = s from rfl] at hK; exact hK, rfl⟩
      rw [hval.1]
      simp [hrun]
    · cases hp
  | cons y1 yt =>
    obtain ⟨ug, uo, rfl, hucap, hucell⟩ := huc.resolve_left (by simp)
    have hnpos : 0 < (y1 :: yt).length := by simp
    -- a new block, whatever becomes of the old one
    have grow : ∀ (b : Option Addr) (len cap : Nat) (olds : List Value) (ocs : List C) (s1 : St), a.eval y = .slice b len cap → olds.length = len → ocs.length = len →
        ((b = none ∧ len = 0 ∧ cap = 0) ∨ (∃ q, b = some q ∧ len = 0) ∨ ∃ g off, b = some ⟨g, off, none⟩ ∧ ∀ j, j < len → w.cell? ⟨g, off + j, none⟩ = some (olds.getD j undef)) →
        (∀ (i : Nat) (c : C), ocs[i]? = some c → c.hok = true ∧ RepC w (Wn x s E) E c (olds.getD i undef)) → cap < len + (y1 :: yt).length → len ≤ cap → len + (y1 :: yt).length ≤ 140737488355328 → (len + (y1 :: yt).length) * i.bytes ≤ 140737488355328 →
        s1.H.length = s.H.length → s1.t = s.t → s1.m = s.m → RepE P x s1 w E → (∀ b o, Wn x s1 E b o → Wn x s E b o) → K (.one (.hs s.H.length 0 (len + (y1 :: yt).length))) (s1.hpush ⟨ocs ++ y1 :: yt, false⟩) →
        OpOK P x s a w (do pure (.value (← Builtin.append_ #[t, t] ty #[a.eval y, .slice (some ⟨ug, uo, none⟩) (y1 :: yt).length uc]))) K := by
      intro b len cap olds ocs s1 hval hol hocl hb hocr hroom hlc hle hby' hlen1 ht1 hm1 h31 hW hk
      have hrun := run_app_grow (P := P) w t ty e i zv hu hi hzv his b len cap (y1 :: yt).length uc olds hol hb ug uo us hul hucell hnpos hroom hlc (by omega) hby'
      rw [hval]
      have gr : Grew w (w.drew.alloc (.cells (olds.toArray ++ us.toArray ++ Builtin.zeroCells zv.cells (grownCap w (len + (y1 :: yt).length) cap e - (len + (y1 :: yt).length))) e)) := (Grew.drew w).trans (Grew.alloc w.drew _)
      have hge := grownCap_ge w (len + (y1 :: yt).length) cap e
      have hvs : (olds.toArray ++ us.toArray ++ Builtin.zeroCells zv.cells (grownCap w (len + (y1 :: yt).length) cap e - (len + (y1 :: yt).length))).size = grownCap w (len + (y1 :: yt).length) cap e := by
        simp only [Array.size_append, List.size_toArray, size_zeroCells, hzs, hol, hul]; omega
      have kp1 : Keeps w (Wn x s E) w (Wn x s1 E) := Keeps.anti hW
      obtain ⟨g1, g2⟩ := h31.hnew ⟨ocs ++ y1 :: yt, false⟩ gr w.heap.size (Nat.le_refl _) _ e (heap_alloc_new w.drew _) (by rw [hvs]; simp only [List.length_append]; omega) (fun h => by cases h) (fun j c hj => by
        have hj : (ocs ++ y1 :: yt)[j]? = some c := hj
        rw [grown_get, hol, hul]
        rw [List.getElem?_append, hocl] at hj
        split at hj
        · rename_i hlt; rw [if_pos hlt]; exact ⟨(hocr j c hj).1, (hocr j c hj).2.keep kp1 (.refl E)⟩
        · rename_i hge'
          have hlt2 : j - len < (y1 :: yt).length := (List.getElem?_eq_some_iff.1 hj).1
          rw [if_neg hge', if_pos (by omega)]
          exact ⟨(hur _ c hj).1, (hur _ c hj).2.keep kp1 (.refl E)⟩)
      have hn1 : E.hn = s.H.length := h3.hp.n
      refine ⟨.slice (some ⟨w.heap.size, 0, none⟩) (len + (y1 :: yt).length) (grownCap w (len + (y1 :: yt).length) cap e), _, .one (.hs s.H.length 0 (len + (y1 :: yt).length)), s1.hpush ⟨ocs ++ y1 :: yt, false⟩, .inl (by simp only [Sem.run_bind, hrun, Result.andThen_ok, Sem.run_pure]), ⟨h1, by show s1.m = _; rw [hm1]; exact h2, _, g1, fun j => ?_, .one (.hs s.H.length 0 (len + (y1 :: yt).length)) _ ⟨?_, some ⟨w.heap.size, 0, none⟩, grownCap w (len + (y1 :: yt).length) cap e, rfl, .inr ⟨?_, hge, ?_⟩⟩⟩, hk, by show s1.m = s.m; exact hm1⟩
      · show RepA _ _ _ (s1.t j) _
        rw [ht1]
        exact ((h4 j).keep kp1 (.refl E)).keep g2 (E.le_push _ _)
      · show s.H.length < E.hn + 1; omega
      · show some (⟨w.heap.size, 0, none⟩ : Addr) = some ⟨upd E.γ E.hn w.heap.size s.H.length, 0, none⟩
        rw [hn1]; simp
      · show 0 + _ = upd E.gs E.hn _ s.H.length
        rw [hn1, upd_same, hvs, Nat.zero_add]
    cases v with
    | full es =>
      simp only [hApp, Option.bind_eq_some_iff, Option.some.injEq] at hp
      obtain ⟨ds, hds, rfl⟩ := hp
      simp only [hLen, Option.some.injEq] at hn
      subst hn
      have hv0 := hv
      obtain ⟨hd, b0, hb0⟩ := hv0
      have hes := xOnes_some hds
      have hcl : (ds.map C.d).length = es.length := by rw [hes]; simp
      obtain ⟨b, cap, olds, hval, hol, hor, hoc⟩ := hCells_repD (E := E) hd (ys := ds.map C.d) (by rw [hds]; rfl)
      rw [hcl] at hval hol
      have hcap : cap = es.length := by rw [hb0] at hval; injection hval with _ _ h5; exact h5.symm
      subst hcap
      refine grow b es.length es.length olds (ds.map C.d) s hval hol hcl ?_ hor (by omega) (Nat.le_refl _) h63 hsz rfl rfl rfl h3 (fun _ _ h => h) hK
      rcases hoc with h0 | ⟨g, off, rfl, _, hcell⟩
      · have h00 : es.length = 0 := by rw [← hcl, h0]; rfl
        cases b with
        | none => exact .inl ⟨rfl, h00, h00⟩
        | some q => exact .inr (.inl ⟨q, rfl, h00⟩)
      · exact .inr (.inr ⟨g, off, rfl, fun j hj => hcell j (by rw [hcl]; exact hj)⟩)
    | hs k off len =>
      simp only [hLen, Option.some.injEq] at hn
      subst hn
      simp only [hApp, Option.bind_eq_some_iff] at hp
      obtain ⟨o, ho, hp⟩ := hp
      have hk := hGet_some ho
      obtain ⟨hkn, b, cap, hval, hcase⟩ := hv
      obtain ⟨vs, tg, b1, b2, b3, b4, b5⟩ := h3.hp.ob k o hk
      split at hp
      · rename_i hle
        have hpre : ∀ (j : Nat) (c : C), ((o.cs.drop off).take len)[j]? = some c → c.hok = true ∧ RepC w (Wn x s E) E c (((List.range len).map fun j => vs.getD (off + j) undef).getD j undef) := fun j c hj => by
          rw [List.getElem?_take] at hj
          split at hj
          · rename_i hlt
            rw [List.getElem?_drop] at hj
            have : ((List.range len).map fun i => vs.getD (off + i) undef).getD j undef = vs.getD (off + j) undef := by simp [hlt]
            rw [this]; exact b5 _ c hj
          · cases hj
        have hcelb : (b = none ∧ len = 0 ∧ cap = 0) ∨ (∃ q, b = some q ∧ len = 0) ∨ ∃ g of', b = some ⟨g, of', none⟩ ∧ ∀ j, j < len → w.cell? ⟨g, of' + j, none⟩ = some (((List.range len).map fun j => vs.getD (off + j) undef).getD j undef) := by
          rcases hcase with ⟨h5, h6, _⟩ | ⟨rfl, h6, _⟩
          · cases b with
            | none => exact .inl ⟨rfl, h5, h6⟩
            | some q => exact .inr (.inl ⟨q, rfl, h5⟩)
          · refine .inr (.inr ⟨E.γ k, off, rfl, fun j hj => ?_⟩)
            rw [cell_of_row w _ _ vs tg (0, 0) b1]
            have : off + j < vs.size := by omega
            simp [hj, this]
        have hlc : len ≤ cap := by rcases hcase with ⟨h5, h6, _⟩ | ⟨_, h6, _⟩ <;> omega
        split at hp
        · rename_i hroom
          simp only [Option.some.injEq] at hp
          subst hp
          rcases hcase with ⟨h5, h6, h7⟩ | ⟨rfl, h6, h7⟩
          · omega
          · obtain ⟨old, tg', c1, c2, c3, g1, g2⟩ := h3.hwr hk (off + len) (y1 :: yt) us hul hur hroom
            have hrun := run_app_room (P := P) w t ty e i hu hi his (E.γ k) off len cap (y1 :: yt).length uc old tg' c1 ug uo us hul hucell c3 (by omega) c2
            rw [hval]
            refine ⟨.slice (some ⟨E.γ k, off, none⟩) (len + (y1 :: yt).length) cap, _, .one (.hs k off (len + (y1 :: yt).length)), s.hset k ⟨rpl o.cs (off + len) (y1 :: yt), o.ex⟩, .inl (by simp only [Sem.run_bind, hrun, Result.andThen_ok, Sem.run_pure]), ⟨h1, h2, E, g1, fun j => (h4 j).keep g2 (.refl E), .one (.hs k off (len + (y1 :: yt).length)) _ ⟨hkn, some ⟨E.γ k, off, none⟩, cap, rfl, .inr ⟨rfl, by omega, h7⟩⟩⟩, hK, rfl⟩
        · rename_i hroom
          split at hp
          · rename_i hex
            simp only [Option.some.injEq] at hp
            subst hp
            have := b4 hex
            exact grow b len cap ((List.range len).map fun j => vs.getD (off + j) undef) ((o.cs.drop off).take len) s hval (by simp) (by simp; omega) hcelb hpre
              (by rcases hcase with ⟨h5, h6, h7⟩ | ⟨_, h6, h7⟩ <;> omega) hlc h63 hsz rfl rfl rfl h3 (fun _ _ h => h) hK
          · split at hp
            · rename_i hoff
              subst hoff
              simp only [Option.some.injEq] at hp
              subst hp
              rw [List.drop_zero] at hpre
              by_cases hcap : len + (y1 :: yt).length ≤ cap
              · rcases hcase with ⟨h5, h6, h7⟩ | ⟨rfl, h6, h7⟩
                · omega
                · have hcl : (o.cs.take len).length = len := by simp; omega
                  obtain ⟨old, tg', c1, c2, c3, g1, g2⟩ := h3.hwr' hk len (y1 :: yt) us hul hur ⟨o.cs.take len ++ y1 :: yt, false⟩ (by omega) (by show (o.cs.take len ++ y1 :: yt).length ≤ _; rw [List.length_append, hcl]; omega) (fun h => by cases h) (fun j c hj => by
                    have hj : (o.cs.take len ++ y1 :: yt)[j]? = some c := hj
                    rw [List.getElem?_append, hcl] at hj
                    split at hj
                    · rename_i hlt
                      rw [List.getElem?_take, if_pos hlt] at hj
                      exact .inl ⟨.inl hlt, hj⟩
                    · rename_i hge; exact .inr ⟨by omega, hj⟩)
                  have hrun := run_app_room (P := P) w t ty e i hu hi his (E.γ k) 0 len cap (y1 :: yt).length uc old tg' c1 ug uo us hul hucell c3 hcap (by rw [Nat.zero_add]; exact c2)
                  rw [Nat.zero_add] at hrun
                  have hk' : (s.hset k ⟨o.cs.take len ++ y1 :: yt, false⟩).H[k]? = some (some ⟨o.cs.take len ++ y1 :: yt, false⟩) := by
                    show (s.H.set k _)[k]? = _
                    rw [List.getElem?_set_self (List.getElem?_eq_some_iff.1 hk).1]
                  obtain ⟨m1, m2⟩ := g1.hmove hk'
                  have hst : ((s.hset k ⟨o.cs.take len ++ y1 :: yt, false⟩).hkill k).hpush ⟨o.cs.take len ++ y1 :: yt, false⟩ = s.hput (s.H.set k none ++ [some ⟨o.cs.take len ++ y1 :: yt, false⟩]) := by
                    simp [St.hset, St.hkill, St.hpush, St.hput, List.set_set]
                  rw [hst] at m1 m2
                  have hn1 : E.hn = s.H.length := h3.hp.n
                  rw [hval]
                  refine ⟨.slice (some ⟨E.γ k, 0, none⟩) (len + (y1 :: yt).length) cap, _, .one (.hs s.H.length 0 (len + (y1 :: yt).length)), s.hput (s.H.set k none ++ [some ⟨o.cs.take len ++ y1 :: yt, false⟩]), .inl (by simp only [Sem.run_bind, hrun, Result.andThen_ok, Sem.run_pure]), ⟨h1, h2, _, m1, fun j => ((h4 j).keep g2 (.refl E)).keep (Keeps.anti m2) (E.le_push _ _), .one (.hs s.H.length 0 (len + (y1 :: yt).length)) _ ⟨?_, some ⟨E.γ k, 0, none⟩, cap, rfl, .inr ⟨?_, hcap, ?_⟩⟩⟩, hK, rfl⟩
                  · show s.H.length < E.hn + 1; omega
                  · show some (⟨E.γ k, 0, none⟩ : Addr) = some ⟨upd E.γ E.hn (E.γ k) s.H.length, 0, none⟩
                    rw [hn1]; simp
                  · show 0 + cap = upd E.gs E.hn (E.gs k) s.H.length
                    rw [hn1]; simp; omega
              · obtain ⟨q1, q2⟩ := h3.hkill k
                refine grow b len cap ((List.range len).map fun j => vs.getD (0 + j) undef) (o.cs.take len) (s.hkill k) hval (by simp) (by simp; omega) hcelb hpre (by omega) hlc h63 hsz (by simp [St.hkill]) rfl rfl q1 q2 ?_
                exact hK
            · cases hp
      · cases hp
    | _ => simp [hApp] at hp

theorem ahCopy_sound (h : RepSt P x s a w) {t ty e : TypeId} {y z : Operand} {v u : C} {ys : List C} {p : Nat × Hp} (he : sl1 P t e) (hy : aeval s y = .one v) (hzz : aeval s z = .one u) (hys : hCells s.H u = some ys)
    (hp : hCopy s.H v ys = some p) (hK : K (.one (.d (.v (.int .i64 p.1)))) (s.hput p.2)) : OpOK P x s a w (do pure (.value (← Builtin.copy_ #[t, t] ty #[a.eval y, a.eval z]))) K := by
  obtain ⟨hte, hts⟩ := he
  have hu := telem_und hte
  obtain ⟨i, hi, his⟩ := tsz_info hts
  obtain ⟨h1, h2, E, h3, h4⟩ := h
  have hv := aeval_rep h4 y
  rw [hy] at hv
  replace hv := one_inv hv
  have hz' := aeval_rep h4 z
  rw [hzz] at hz'
  obtain ⟨ub, uc, us, huval, hul, hur, huc⟩ := hCells_rep h3 (one_inv hz') hys
  unfold hCopy at hp
  split at hp
  · rename_i k off len
    simp only [Option.bind_eq_some_iff] at hp
    obtain ⟨o, ho, hp⟩ := hp
    have hk := hGet_some ho
    split at hp
    · rename_i hle
      simp only [Option.some.injEq] at hp
      subst hp
      obtain ⟨hkn, b, cap, hval, hcase⟩ := hv
      generalize hm : min ys.length len = m at *
      have hml : m ≤ len := by omega
      have hmy : m ≤ ys.length := by omega
      have hut : (us.take m).length = m := by simp; omega
      have hyt : (ys.take m).length = m := by simp; omega
      obtain ⟨old, tg, c1, c2, c3, g1, g2⟩ := h3.hwr hk off (ys.take m) (us.take m) (by rw [hut, hyt]) (fun j c hj => by
        rw [List.getElem?_take] at hj
        split at hj
        · rename_i hlt
          have : (us.take m).getD j undef = us.getD j undef := by simp [List.getD_eq_getElem?_getD, List.getElem?_take, hlt]
          rw [this]; exact hur j c hj
        · cases hj) (by rw [hyt]; omega)
      have hrun : (Builtin.copy_ #[t, t] ty #[.slice b len cap, .slice ub ys.length uc]).run P w = .ok (.int .i64 m) (w.setRow (E.γ k) (old.toList.take off ++ us.take m ++ old.toList.drop (off + (us.take m).length)).toArray) := by
        have hmin : Nat.min ys.length len = m := hm
        by_cases hm0 : m = 0
        · have hset : w.setRow (E.γ k) (old.toList.take off ++ us.take m ++ old.toList.drop (off + (us.take m).length)).toArray = w := by
            subst hm0
            simp only [List.take_zero, List.append_nil, List.length_nil, Nat.add_zero, List.take_append_drop, Array.toArray_toList]
            exact setRow_self w _ old tg (0, 0) c1
          rw [hset]
          have hfc : (Builtin.firstCells 1 0 (.slice ub ys.length uc)).run P w = .ok #[] w := by
            cases ub with
            | none => simp [Builtin.firstCells]
            | some q => simp [Builtin.firstCells, loadCells, loadCellsFrom]
          subst hm0
          cases b with
          | none => simp [Builtin.copy_, run_underlying hu, sizeOf, typeInfo, hi, his, Builtin.lenOf, hmin, hfc, goInt]
          | some q => simp [Builtin.copy_, run_underlying hu, sizeOf, typeInfo, hi, his, Builtin.lenOf, hmin, hfc, goInt, storeCells]
        · obtain ⟨ug, uo, rfl, _, hucell⟩ := huc.resolve_left (fun h => by rw [h] at hmy; simp at hmy; omega)
          have hb : b = some ⟨E.γ k, off, none⟩ := by
            rcases hcase with ⟨h5, _, _⟩ | ⟨h5, _, _⟩
            · omega
            · exact h5
          subst hb
          have hfc := run_firstCells_some (P := P) w 1 m ⟨ug, uo, none⟩ ys.length uc (us.take m) (by omega) (news_of (n := m) hut fun j hj => by
            rw [hucell j (by omega)]
            simp [List.getD_eq_getElem?_getD, List.getElem?_take, hj])
          have hst := run_storeCells_at P (E.γ k) off tg (us.take m) 0 old w c1 (by simpa using c2) c3
          simp only [Nat.add_zero] at hst
          simp [Builtin.copy_, run_underlying hu, sizeOf, typeInfo, hi, his, Builtin.lenOf, hmin, hfc, hst, goInt]
      rw [hval, huval]
      refine ⟨.int .i64 m, _, .one (.d (.v (.int .i64 m))), s.hset k ⟨rpl o.cs off (ys.take m), o.ex⟩, .inl (by simp only [Sem.run_bind, hrun, Result.andThen_ok, Sem.run_pure]), ⟨h1, h2, E, g1, fun j => (h4 j).keep g2 (.refl E), RepA.v _ rfl⟩, hK, rfl⟩
    · cases hp
  · cases hp

theorem ahClear_sound (h : RepSt P x s a w) {t ty e : TypeId} {y : Operand} {v z : C} {H : Hp} (he : sl1 P t e) (hz : zcell P e = some z) (hy : aeval s y = .one v) (hp : hClear s.H z v = some H) (hK : K (.tup []) (s.hput H)) :
    OpOK P x s a w (do pure (.value (← Builtin.clear_ #[t] ty #[a.eval y]))) K := by
  obtain ⟨hte, hts⟩ := he
  have hu := telem_und hte
  obtain ⟨hzk, i, zv, hi, hzv, hzs, hzr⟩ := zcell_some w hz
  obtain ⟨h1, h2, E, h3, h4⟩ := h
  have hv := aeval_rep h4 y
  rw [hy] at hv
  replace hv := one_inv hv
  unfold hClear at hp
  split at hp
  · rename_i k off len
    simp only [Option.bind_eq_some_iff] at hp
    obtain ⟨o, ho, hp⟩ := hp
    have hk := hGet_some ho
    split at hp
    · rename_i hle
      simp only [Option.some.injEq] at hp
      subst hp
      obtain ⟨hkn, b, cap, hval, hcase⟩ := hv
      have hzl : (Builtin.zeroCells zv.cells len).toList = List.replicate len (zv.cells.getD 0 undef) := by
        apply List.ext_getElem?
        intro j
        simp only [Builtin.zeroCells, hzs, Nat.mul_one, Nat.mod_one, Array.getElem?_toList, Array.getElem?_map, Array.getElem?_range, List.getElem?_replicate]
        have h00 : 0 < zv.cells.size := by omega
        split
        · simp [h00]
        · rfl
      obtain ⟨old, tg, c1, c2, c3, g1, g2⟩ := h3.hwr hk off (List.replicate len z) (List.replicate len (zv.cells.getD 0 undef)) (by simp) (fun j c hj => by
        rw [List.getElem?_replicate] at hj
        split at hj
        · rename_i hlt
          simp only [Option.some.injEq] at hj
          subst hj
          have : (List.replicate len (zv.cells.getD 0 undef)).getD j undef = zv.cells.getD 0 undef := by rw [List.getD_eq_getElem?_getD, List.getElem?_replicate, if_pos hlt]; rfl
          rw [this]; exact ⟨hzk, hzr _ _⟩
        · cases hj) (by simpa using hle)
      have hrun : (Builtin.clear_ #[t] ty #[.slice b len cap]).run P w = .ok (.tuple #[]) (w.setRow (E.γ k) (old.toList.take off ++ List.replicate len (zv.cells.getD 0 undef) ++ old.toList.drop (off + (List.replicate len (zv.cells.getD 0 undef)).length)).toArray) := by
        by_cases hm0 : len = 0
        · subst hm0
          have hset : w.setRow (E.γ k) (old.toList.take off ++ List.replicate 0 (zv.cells.getD 0 undef) ++ old.toList.drop (off + (List.replicate 0 (zv.cells.getD 0 undef)).length)).toArray = w := by
            simp only [List.replicate_zero, List.append_nil, List.length_nil, Nat.add_zero, List.take_append_drop, Array.toArray_toList]
            exact setRow_self w _ old tg (0, 0) c1
          rw [hset]
          cases b <;> simp [Builtin.clear_, run_underlying hu]
        · have hb : b = some ⟨E.γ k, off, none⟩ := by
            rcases hcase with ⟨h5, _, _⟩ | ⟨h5, _, _⟩
            · omega
            · exact h5
          subst hb
          have hst := run_storeCells_at P (E.γ k) off tg (List.replicate len (zv.cells.getD 0 undef)) 0 old w c1 (by simpa using c2) c3
          simp only [Nat.add_zero] at hst
          obtain ⟨len', rfl⟩ := Nat.exists_eq_succ_of_ne_zero hm0
          have hzz : (zeroValue e).run P w = .ok zv w := by simp [zeroValue, typeInfo, hi, hzv]
          simp only [Builtin.clear_, List.size_toArray, List.length_cons, List.length_nil, Sem.run_bind, run_underlying hu, Result.andThen_ok, hzz, hzl, hst, Sem.run_pure, List.getElem?_toArray, List.getElem?_cons_zero]
      rw [hval]
      refine ⟨.tuple #[], _, .tup [], s.hset k ⟨rpl o.cs off (List.replicate len z), o.ex⟩, .inl (by simp only [Sem.run_bind, hrun, Result.andThen_ok, Sem.run_pure]), ⟨h1, h2, E, g1, fun j => (h4 j).keep g2 (.refl E), .tup [] [] rfl (by simp)⟩, hK, rfl⟩
    · cases hp
  · cases hp

theorem ahCap_sound (h : RepSt P x s a w) {t ty e : TypeId} {y : Operand} {v : C} {n : Nat} (he : sl1 P t e) (hy : aeval s y = .one v) (hn : hCap s.H v = some n) (hK : K (.one (.d (.v (.int .i64 n)))) s) :
    OpOK P x s a w (do pure (.value (← Builtin.cap_ #[t] ty #[a.eval y]))) K := by
  obtain ⟨hte, hts⟩ := he
  have hu := telem_und hte
  have h0 := h
  obtain ⟨h1, h2, E, h3, h4⟩ := h
  have hv := aeval_rep h4 y
  rw [hy] at hv
  replace hv := one_inv hv
  obtain ⟨b, len, hval⟩ : ∃ b len, a.eval y = .slice b len n := by
    unfold hCap at hn
    split at hn
    · rename_i k off len
      simp only [Option.bind_eq_some_iff] at hn
      obtain ⟨o, ho, hn⟩ := hn
      have hk := hGet_some ho
      split at hn
      · rename_i hex
        simp only [Option.some.injEq] at hn
        subst hn
        obtain ⟨hkn, b, cap, hval, hcase⟩ := hv
        obtain ⟨vs, tg, b1, b2, b3, b4, b5⟩ := h3.hp.ob k o hk
        have := b4 hex.1
        refine ⟨b, len, ?_⟩
        rw [hval]
        congr 1
        rcases hcase with ⟨h5, h6, h7⟩ | ⟨_, h6, h7⟩ <;> omega
      · cases hn
    · rename_i es
      simp only [Option.some.injEq] at hn
      subst hn
      obtain ⟨_, b, hb⟩ := hv
      exact ⟨b, es.length, hb⟩
    · cases hn
  rw [hval]
  exact OpOK.pure h0 (v := .int .i64 n) (by simp [Builtin.cap_, run_underlying hu, goInt]) (fun _ _ _ => RepA.v _ rfl) hK

theorem hpIds_rep {E : Env} (h4 : ∀ i, RepA w (Wn x s E) E (s.t i) (a.tmps.getD i undef)) : ∀ (l : List Operand) (ks : List Nat), hpIds (l.map (aeval s)) = some ks → (∀ k ∈ ks, k < E.hn) ∧ l.map a.eval = ks.map fun k => Value.pointer (some ⟨E.γ k, 0, none⟩)
  | [], ks, h => by simp [hpIds] at h; subst h; simp
  | o :: l, ks, h => by
    have hv := aeval_rep h4 o
    simp only [List.map_cons] at h
    generalize aeval s o = r at *
    unfold hpIds at h
    split at h
    · rename_i he; cases he
    · rename_i k as he
      simp only [List.cons.injEq] at he
      obtain ⟨rfl, rfl⟩ := he
      simp only [Option.map_eq_some_iff] at h
      obtain ⟨ks', h1, rfl⟩ := h
      obtain ⟨i1, i2⟩ := hpIds_rep h4 l ks' h1
      obtain ⟨hk, hval⟩ := one_inv hv
      exact ⟨fun j hj => by rcases List.mem_cons.1 hj with rfl | hj; exact hk; exact i1 j hj, by simp [hval, i2]⟩
    · cases h

theorem ahMakeFunc_sound (h : RepSt P x s a w) {fn : Fn} {first captured : Array Operand} (hK : aheap P s (.makeFunc fn first captured) K) :
    OpOK P x s a w (do pure (.value (← Instr.makeFunc fn (first.map a.eval) (captured.map a.eval)))) K := by
  obtain ⟨f, ks, rfl, hf, hks, hK⟩ := hK
  have hfe : first = #[] := by simpa using hf
  subst hfe
  obtain ⟨h1, h2, E, h3, h4⟩ := h
  obtain ⟨g1, g2⟩ := hpIds_rep h4 _ _ hks
  have hce : captured.map a.eval = (ks.map fun k => Value.pointer (some ⟨E.γ k, 0, none⟩)).toArray := by
    apply Array.toList_inj.1; simpa using g2
  refine ⟨_, w, .one (.hclo f ks), s, .inl ?_, ⟨h1, h2, E, h3, h4, .one _ _ ⟨g1, rfl⟩⟩, hK, rfl⟩
  rw [hce]; simp [Instr.makeFunc]

theorem zeroCells_one (z : Array Value) (hz : z.size = 1) (n i : Nat) (hi : i < n) : (Builtin.zeroCells z n)[i]? = some (z.getD 0 undef) := by
  unfold Builtin.zeroCells
  rw [hz, Nat.mul_one, Array.getElem?_map]
  have hr : (Array.range n)[i]? = some i := by rw [Array.getElem?_range]; simp [hi]
  rw [hr]
  simp only [Option.map_some, Nat.mod_one]
  congr 1
  have : 0 < z.size := by omega
  simp [this]

theorem run_app_zeros (t tn ty e : TypeId) (i : TypeInfo) (z : Value) (kq kn : IntKind) (ht : P.underlying t = some (.slice e)) (htn : P.underlying tn = some (.int kn)) (hi : P.info? e = some i) (hz : i.zero = some z) (hs : i.size = 1) (b : Option Addr) (len cap n : Nat)
    (olds : List Value) (hol : olds.length = len) (hb : (b = none ∧ len = 0 ∧ cap = 0) ∨ (∃ a, b = some a ∧ len = 0) ∨ ∃ g off, b = some ⟨g, off, none⟩ ∧ ∀ j, j < len → w.cell? ⟨g, off + j, none⟩ = some (olds.getD j undef))
    (hn : 0 < n) (hroom : cap < len + n) (h63 : len + n ≤ 9223372036854775807) (hbytes : (len + n) * i.bytes ≤ 140737488355328) :
    (Builtin.append_ #[t, tn] ty #[.slice b len cap, .int kq n]).run P w =
      .ok (.slice (some ⟨w.heap.size, 0, none⟩) (len + n) (grownCap w (len + n) cap e)) (w.drew.alloc (.cells (olds.toArray ++ Builtin.zeroCells z.cells n ++ Builtin.zeroCells z.cells (grownCap w (len + n) cap e - (len + n))) e)) := by
  have hfit := growslice_fits (need := len + n) (old := cap) (bytes := i.bytes) hroom hbytes
  have hnb : n * i.bytes ≤ (len + n) * i.bytes := Nat.mul_le_mul_right _ (by omega)
  have hcell : ∀ ad, w.drew.cell? ad = w.cell? ad := fun ad => rfl
  refine Lib.run_append_grow_zeros w t tn ty e i z kq kn ht htn hi hz b len cap olds ?_ n hn (by omega) hroom (by omega) (by omega) hfit
  rcases hb with ⟨rfl, rfl, rfl⟩ | ⟨ad, rfl, rfl⟩ | ⟨g, off, rfl, hc⟩
  · have hl0 : olds = [] := List.eq_nil_of_length_eq_zero hol
    subst hl0
    simp [Builtin.firstCells]
  · have hl0 : olds = [] := List.eq_nil_of_length_eq_zero hol
    subst hl0
    simp [Builtin.firstCells, loadCells, loadCellsFrom]
  · rw [hs]
    exact run_firstCells_some (P := P) w.drew 1 len ⟨g, off, none⟩ len cap olds (by omega) fun j v hj => by rw [hcell]; exact news_of hol hc j v hj

theorem ahAppZ_sound (h : RepSt P x s a w) {t ti ty e : TypeId} {y z : Operand} {by_ n : Nat} {zc v : C} {kn kq : IntKind} {m : Int} {p : C × Hp} (he : sl1 P t e) (hby : tbytes P e = some by_) (hby0 : 0 < by_) (hz : zcell P e = some zc)
    (hti : tint P ti = some kn) (hy : aeval s y = .one v) (hn : hLen v = some n) (hzz : aeval s z = .one (.d (.v (.int kq m)))) (hm0 : 0 ≤ m) (hsz : (n + m.toNat) * by_ ≤ 140737488355328) (hp : hAppZ s.H v m.toNat zc = some p) (hK : K (.one p.1) (s.hput p.2)) :
    OpOK P x s a w (do pure (.value (← Builtin.append_ #[t, ti] ty #[a.eval y, a.eval z]))) K := by
  obtain ⟨hte, hts⟩ := he
  have hu := telem_und hte
  have hui : P.underlying ti = some (.int kn) := by
    unfold tint at hti
    split at hti
    · rename_i k' hk'; simp only [Option.some.injEq] at hti; subst hti; exact hk'
    · cases hti
  obtain ⟨hzk, i, zv, hi, hzv, hzs, hzr⟩ := zcell_some w hz
  obtain ⟨i', hi', his⟩ := tsz_info hts
  rw [hi] at hi'
  cases hi'
  have hiby : i.bytes = by_ := by unfold tbytes at hby; simpa [hi] using hby
  subst hiby
  have h63 := cap_le_of hby0 hsz
  obtain ⟨m, rfl⟩ : ∃ q : Nat, m = q := ⟨m.toNat, by omega⟩
  simp only [Int.toNat_natCast] at hsz h63 hp
  obtain ⟨h1, h2, E, h3, h4⟩ := h
  have hv := aeval_rep h4 y
  rw [hy] at hv
  replace hv := one_inv hv
  have hmv : a.eval z = .int kq m := by
    have := aeval_rep h4 z
    rw [hzz] at this
    exact v_inv this
  rw [hmv]
  unfold hAppZ at hp
  split at hp
  · rename_i k off len
    simp only [hLen, Option.some.injEq] at hn
    subst hn
    simp only [Option.bind_eq_some_iff] at hp
    obtain ⟨o, ho, hp⟩ := hp
    split at hp
    · rename_i hc
      obtain ⟨hex, hle, hlt⟩ := hc
      simp only [Option.some.injEq] at hp
      subst hp
      have hk := hGet_some ho
      obtain ⟨hkn, b, cap, hval, hcase⟩ := hv
      obtain ⟨vs, tg, b1, b2, b3, b4, b5⟩ := h3.hp.ob k o hk
      have hexs := b4 hex
      have hmpos : 0 < m := by omega
      let olds : List Value := (List.range len).map fun j => vs.getD (off + j) undef
      let ocs := (o.cs.drop off).take len
      have hol : olds.length = len := by simp [olds]
      have hocl : ocs.length = len := by simp [ocs]; omega
      have hocr : ∀ (j : Nat) (c : C), ocs[j]? = some c → c.hok = true ∧ RepC w (Wn x s E) E c (olds.getD j undef) := fun j c hj => by
        have hj : ((o.cs.drop off).take len)[j]? = some c := hj
        rw [List.getElem?_take] at hj
        split at hj
        · rename_i hlt
          rw [List.getElem?_drop] at hj
          have : olds.getD j undef = vs.getD (off + j) undef := by simp [olds, hlt]
          rw [this]; exact b5 _ c hj
        · cases hj
      have hcelb : (b = none ∧ len = 0 ∧ cap = 0) ∨ (∃ q, b = some q ∧ len = 0) ∨ ∃ g of', b = some ⟨g, of', none⟩ ∧ ∀ j, j < len → w.cell? ⟨g, of' + j, none⟩ = some (olds.getD j undef) := by
        rcases hcase with ⟨h5, h6, _⟩ | ⟨rfl, h6, _⟩
        · cases b with
          | none => exact .inl ⟨rfl, h5, h6⟩
          | some q => exact .inr (.inl ⟨q, rfl, h5⟩)
        · refine .inr (.inr ⟨E.γ k, off, rfl, fun j hj => ?_⟩)
          rw [cell_of_row w _ _ vs tg (0, 0) b1]
          have : off + j < vs.size := by omega
          simp [olds, hj, this]
      have hroom : cap < len + m := by rcases hcase with ⟨h5, h6, h7⟩ | ⟨_, h6, h7⟩ <;> omega
      have hlc : len ≤ cap := by rcases hcase with ⟨h5, h6, _⟩ | ⟨_, h6, _⟩ <;> omega
      have hrun := run_app_zeros (P := P) (w := w) t ti ty e i zv kq kn hu hui hi hzv his b len cap m olds hol hcelb hmpos hroom (by omega) hsz
      rw [hval]
      obtain ⟨G, hG⟩ : ∃ G, G = grownCap w (len + m) cap e := ⟨_, rfl⟩
      have hge : len + m ≤ G := by rw [hG]; exact grownCap_ge w (len + m) cap e
      rw [← hG] at hrun
      have gr : Grew w (w.drew.alloc (.cells (olds.toArray ++ Builtin.zeroCells zv.cells m ++ Builtin.zeroCells zv.cells (G - (len + m))) e)) := (Grew.drew w).trans (Grew.alloc w.drew _)
      have hvs : (olds.toArray ++ Builtin.zeroCells zv.cells m ++ Builtin.zeroCells zv.cells (G - (len + m))).size = G := by
        simp only [Array.size_append, List.size_toArray, size_zeroCells, hzs, hol]; omega
      obtain ⟨g1, g2⟩ := h3.hnew ⟨ocs ++ List.replicate m zc, false⟩ gr w.heap.size (Nat.le_refl _) _ e (heap_alloc_new w.drew _) (by rw [hvs]; simp only [List.length_append, List.length_replicate]; omega) (fun h => by cases h) (fun j c hj => by
        have hj : (ocs ++ List.replicate m zc)[j]? = some c := hj
        rw [List.getElem?_append, hocl] at hj
        split at hj
        · rename_i hlt
          have hq : (olds.toArray ++ Builtin.zeroCells zv.cells m ++ Builtin.zeroCells zv.cells (G - (len + m))).getD j undef = olds.getD j undef := by
            rw [Array.getD_eq_getD_getElem?, Array.getElem?_append_left (by simp [size_zeroCells, hzs, hol]; omega), Array.getElem?_append_left (by simp [hol]; omega), List.getElem?_toArray, ← List.getD_eq_getElem?_getD]
          rw [hq]
          exact ⟨(hocr j c hj).1, (hocr j c hj).2⟩
        · rename_i hge'
          rw [List.getElem?_replicate] at hj
          split at hj
          · rename_i hlt2
            simp only [Option.some.injEq] at hj
            subst hj
            have hq : (olds.toArray ++ Builtin.zeroCells zv.cells m ++ Builtin.zeroCells zv.cells (G - (len + m))).getD j undef = zv.cells.getD 0 undef := by
              rw [Array.getD_eq_getD_getElem?, Array.getElem?_append_left (by simp [size_zeroCells, hzs, hol]; omega), Array.getElem?_append_right (by simp [hol]; omega)]
              simp only [List.size_toArray, hol]
              rw [zeroCells_one zv.cells hzs m (j - len) hlt2]; rfl
            rw [hq]
            exact ⟨hzk, hzr _ _⟩
          · cases hj)
      have hn1 : E.hn = s.H.length := h3.hp.n
      refine ⟨.slice (some ⟨w.heap.size, 0, none⟩) (len + m) G, _, .one (.hs s.H.length 0 (len + m)), s.hpush ⟨ocs ++ List.replicate m zc, false⟩, .inl (by simp only [Sem.run_bind, hrun, Result.andThen_ok, Sem.run_pure]), ⟨h1, h2, _, g1, fun j => ?_, .one (.hs s.H.length 0 (len + m)) _ ⟨?_, some ⟨w.heap.size, 0, none⟩, G, rfl, .inr ⟨?_, hge, ?_⟩⟩⟩, hK, rfl⟩
      · exact (h4 j).keep g2 (E.le_push _ _)
      · show s.H.length < E.hn + 1; omega
      · show some (⟨w.heap.size, 0, none⟩ : Addr) = some ⟨upd E.γ E.hn w.heap.size s.H.length, 0, none⟩
        rw [hn1]; simp
      · show 0 + _ = upd E.gs E.hn _ s.H.length
        rw [hn1, upd_same, hvs, Nat.zero_add]
    · cases hp
  · cases hp

theorem hLen_some_base {W : WSet} {E : Env} {c : C} {v : Value} {n : Nat} (h : RepC w W E c v) (hn : hLen c = some n) : ∃ b cap, v = .slice b n cap ∧ (b = none → n = 0) := by
  unfold hLen at hn
  split at hn
  · simp only [Option.some.injEq] at hn
    subst hn
    obtain ⟨_, b, cap, rfl, hc⟩ := h
    rcases hc with ⟨h5, _, _⟩ | ⟨rfl, _, _⟩
    · exact ⟨b, cap, rfl, fun _ => h5⟩
    · exact ⟨_, cap, rfl, fun e => by cases e⟩
  · simp only [Option.some.injEq] at hn
    subst hn
    cases h with
    | nil a cap => exact ⟨a, cap, rfl, fun _ => rfl⟩
    | sl es sz b off cap f _ _ _ _ => exact ⟨_, cap, rfl, fun e => by cases e⟩
  · simp only [Option.some.injEq] at hn
    subst hn
    obtain ⟨h, _⟩ := h
    cases h with
    | nil a cap => exact ⟨a, cap, rfl, fun _ => rfl⟩
    | sl es sz b off cap f _ _ _ _ => exact ⟨_, cap, rfl, fun e => by cases e⟩
  · cases hn

theorem run_equalIn_nil (w : World) (d : Nat) (t e : TypeId) (b : Option Addr) (n cap : Nat) (h : P.underlying t = some (.slice e)) : (Op.equalIn (d + 1) t (.slice b n cap) (.slice none 0 0)).run P w = .ok b.isNone w := by
  cases b <;> simp [Op.equalIn, run_underlying h]

theorem ahNil_sound (h0 : RepSt P x s a w) {op : BinOp} {t t2 : TypeId} {y z : Operand} (hK : aheap P s (.binOp op t y z t2) K) :
    OpOK P x s a w (do pure (.value (← (do eqGuard op t y z (a.eval y) (a.eval z); binOp op t (a.eval y) (a.eval z) : Sem Value)))) K := by
  obtain ⟨e, c, n, rfl, he, rfl, hy, hn, h1, h2⟩ := hK
  have hu := telem_und he
  obtain ⟨_, _, E, h3, h4⟩ := id h0
  have hv := aeval_rep h4 y
  rw [hy] at hv
  obtain ⟨b, cap, hval, hb⟩ := hLen_some_base (one_inv hv) hn
  rw [hval]
  have hz : a.eval (.const (.slice none 0 0)) = .slice none 0 0 := rfl
  rw [hz]
  have hg : (eqGuard .eql t y (.const (.slice none 0 0)) (.slice b n cap) (.slice none 0 0)).run P w = .ok () w := rfl
  cases b with
  | none =>
    have hq : (Op.equal t (.slice none n cap) (.slice none 0 0)).run P w = .ok true w := run_equalIn_nil w 9999 t e none n cap hu
    exact OpOK.pure h0 (v := .bool true) (by simp [hg, binOp, hq]) (fun _ _ _ => RepA.v _ rfl) (h2 (hb rfl))
  | some p =>
    have hq : (Op.equal t (.slice (some p) n cap) (.slice none 0 0)).run P w = .ok false w := run_equalIn_nil w 9999 t e (some p) n cap hu
    exact OpOK.pure h0 (v := .bool false) (by simp [hg, binOp, hq]) (fun _ _ _ => RepA.v _ rfl) h1
end sound
end Go.Av
