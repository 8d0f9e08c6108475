/-
  ValueBuilds, ValueReads, ValueReturns: whatever the arguments, true.
-/
import Derived.Test.YtmchldchhgofiaaPvL3
set_option linter.all false
set_option linter.unusedSimpArgs false
namespace Go.Av
open Go.Proofs

theorem ok_ofInt (n : Int) (h : -9223372036854775808 ≤ n ∧ n ≤ 9223372036854775807) : (GV.ofInt n).Ok := .mk _ _ _ _ (by simp) (by simp) (by omega) h (by simp)
theorem ok_ofText (s : List UInt8) (h : s.length ≤ 9223372036854775807) : (GV.ofText s).Ok := .mk _ _ _ _ h (by simp) (by omega) (by omega) (by simp)
theorem ok_ofInts (l : List Int) (hl : l.length ≤ 1000000) (h : ∀ n ∈ l, -9223372036854775808 ≤ n ∧ n ≤ 9223372036854775807) : (GV.ofInts l).Ok :=
  .mk _ _ _ _ (by simp) (by simp; omega) (by omega) (by omega) (fun x hx => by obtain ⟨n, hn, rfl⟩ := List.mem_map.1 hx; exact ok_ofInt n (h n hn))
theorem ok_ofTexts (l : List (List UInt8)) (hl : l.length ≤ 1000000) (h : ∀ s ∈ l, s.length ≤ 9223372036854775807) : (GV.ofTexts l).Ok :=
  .mk _ _ _ _ (by simp) (by simp; omega) (by omega) (by omega) (fun x hx => by obtain ⟨n, hn, rfl⟩ := List.mem_map.1 hx; exact ok_ofText n (h n hn))
theorem ok_ofTable (l : List (List (List UInt8))) (hl : l.length ≤ 1000000) (hr : ∀ r ∈ l, r.length ≤ 1000000) (h : ∀ r ∈ l, ∀ s ∈ r, s.length ≤ 9223372036854775807) : (GV.ofTable l).Ok :=
  .mk _ _ _ _ (by simp) (by simp; omega) (by omega) (by omega) (fun x hx => by obtain ⟨n, hn, rfl⟩ := List.mem_map.1 hx; exact ok_ofTexts n (hr n hn) (h n hn))

/-- Equal to itself, whatever it is. -/
theorem eqSelf (g : GV) (h : g.Ok) (n : Nat) (hn : g.wt + 4 ≤ n) : Φ0 n i_ref01_Equal [g.toA, g.toA] = some (aB true) := by
  have := ref01_Equal_spec g g h h n hn
  rw [(ordd g).self] at this
  exact this

set_option maxRecDepth 100000 in
theorem builds_run (b : Bool) (x : Int) (s : List UInt8) (is : List Int) (ts : List (List UInt8)) (rs : List (List (List UInt8))) (hx : -9223372036854775808 ≤ x ∧ x ≤ 9223372036854775807) (hs : s.length ≤ 9223372036854775807)
    (h1 : is.length ≤ 40) (h2 : ts.length ≤ 40) (h3 : rs.length ≤ 40) (h4 : ∀ r ∈ rs, r.length ≤ 40) (k1 : ∀ n ∈ is, -9223372036854775808 ≤ n ∧ n ≤ 9223372036854775807) (k2 : ∀ s ∈ ts, s.length ≤ 9223372036854775807) (k3 : ∀ r ∈ rs, ∀ s ∈ r, s.length ≤ 9223372036854775807)
    (N fuel : Nat) (hN : 100 + s.length + (GV.ofInts is).wt + (GV.ofTexts ts).wt + (GV.ofTable rs).wt ≤ N) (k0 : Int → Bool → Int → List UInt8 → List (List D) → List (List D) → List (List D) → Option A) :
    law01_ValueBuilds_l0 (Φ0 N) fuel k0 (rs.length : Int) b x s (is.map intE) (ts.map strE) (rs.map rowE) = some (aB true) := by
  have e0 := alive_spec N (by omega)
  have oB : (GV.mk 1 (if b then 1 else 0) [] []).Ok := .mk _ _ _ _ (by simp) (by simp) (by omega) (by cases b <;> simp) (by simp)
  have oI := ok_ofInt x hx
  have oT := ok_ofText s hs
  have oN : (GV.mk 4 x [] []).Ok := .mk _ _ _ _ (by simp) (by simp) (by omega) hx (by simp)
  have oP : (GV.mk 8 0 s []).Ok := .mk _ _ _ _ hs (by simp) (by omega) (by omega) (by simp)
  have a1 := eqSelf _ oB N (by simp [GV.wt, GV.wtL]; omega)
  have a2 := eqSelf _ oI N (by simp [GV.wt, GV.wtL]; omega)
  have a3 := eqSelf _ oN N (by simp [GV.wt, GV.wtL]; omega)
  have a4 := eqSelf _ oT N (by simp [GV.wt, GV.wtL]; omega)
  have a5 := eqSelf _ oP N (by simp [GV.wt, GV.wtL]; omega)
  have a6 := eqSelf _ (ok_ofInts is (by omega) k1) N (by omega)
  have a7 := eqSelf _ (ok_ofTexts ts (by omega) k2) N (by omega)
  have a8 := eqSelf _ (ok_ofTable rs (by omega) (fun r hr => by have := h4 r hr; omega) k3) N (by omega)
  have hrs : ∀ r ∈ rs, r.length + 4 ≤ N := fun r hr => by have := h4 r hr; omega
  have i1 := value_OfInts_spec is (by omega) N (by omega)
  have i2 := ref01_OfInts_spec is (by omega) N (by omega)
  have t1 := value_OfTexts_spec ts (by omega) N (by omega)
  have t2 := ref01_OfTexts_spec ts (by omega) N (by omega)
  have r1 := value_OfTable_spec rs (by omega) N (by omega) (fun r hr => by have := h4 r hr; omega) hrs
  have r2 := ref01_OfTable_spec rs (by omega) N (by omega) (fun r hr => by have := h4 r hr; omega) hrs
  rw [toA_ofInts] at i1 i2 a6
  rw [toA_ofTexts] at t1 t2 a7
  rw [toA_ofTable] at r1 r2 a8
  simp only [GV.toA, GV.mk_ty, GV.mk_num, GV.mk_text, GV.mk_items, List.map_nil] at a1 a2 a3 a4 a5
  have hlt : ¬ (rs.length : Int) < rs.length := by omega
  unfold law01_ValueBuilds_l0
  simp only [List.length_map, xite_decide, hlt, if_false]
  rw [cG (value_OfBool_spec b N (by omega)), cG (ref01_OfBool_spec b N (by omega)), cB a1]
  simp only [Bool.not_true, xite_false]
  rw [cG (value_OfInt_spec x N (by omega)), cG (ref01_OfInt_spec x N (by omega)), cB a2]
  simp only [Bool.not_true, xite_false]
  rw [cG (value_OfBits_spec x N (by omega)), cG (ref01_OfBits_spec x N (by omega)), cB a3]
  simp only [Bool.not_true, xite_false]
  rw [cG (value_OfText_spec s N (by omega)), cG (ref01_OfText_spec s N (by omega)), cB a4]
  simp only [Bool.not_true, xite_false]
  rw [cG (value_OfPattern_spec s N (by omega)), cG (ref01_OfPattern_spec s N (by omega)), cB a5]
  simp only [Bool.not_true, xite_false]
  rw [cG i1, cG i2, cB a6]
  simp only [Bool.not_true, xite_false]
  rw [cG t1, cG t2, cB a7]
  simp only [xite_true]
  rw [cG r1, cG r2, cB a8]
  simp only [xite_true]
  rw [cB e0]

set_option maxRecDepth 100000 in
theorem valueBuilds_core : ∀ l, ArgsOK TT0 Try.f9.params.toList l → PCall Try.prog 9 l (.one (.d (.v (.bool true)))) := by
  intro l h
  obtain ⟨n, ds, h1, rfl⟩ := args1 (t := t_synthesislaw01_Parts) h
  obtain ⟨dss, rfl, hl, m, rfl, hf⟩ := wt_struct (i := i_synthesislaw01_Parts) rfl rfl h1
  match dss, hl with
  | [d1, d2, d3, d4, d5, d6], _ =>
    obtain ⟨b, rfl⟩ := wt_bool rfl rfl (hf 0 _ d1 rfl rfl)
    obtain ⟨x1, rfl, hx⟩ := wt_int rfl rfl (hf 1 _ d2 rfl rfl)
    obtain ⟨s, rfl, hs⟩ := wt_str rfl rfl (hf 2 _ d3 rfl rfl)
    obtain ⟨es4, rfl, l4, m4, e4, g4⟩ := wt_slice rfl rfl (hf 3 _ d4 rfl rfl)
    obtain ⟨es5, rfl, l5, m5, e5, g5⟩ := wt_slice rfl rfl (hf 4 _ d5 rfl rfl)
    obtain ⟨es6, rfl, l6, m6, e6, g6⟩ := wt_slice rfl rfl (hf 5 _ d6 rfl rfl)
    obtain ⟨is, rfl, q4⟩ := wt_list (f := intE) (q := fun n => -9223372036854775808 ≤ n ∧ n ≤ 9223372036854775807) (fun c hc => wt_int rfl rfl hc) es4 g4
    obtain ⟨ts, rfl, q5⟩ := wt_list (f := strE) (q := fun s => s.length ≤ 9223372036854775807) (fun c hc => wt_str rfl rfl hc) es5 g5
    obtain ⟨rs, rfl, q6⟩ := wt_list (f := rowE) (q := fun r => r.length ≤ 9223372036854775807 ∧ ∀ s ∈ r, s.length ≤ 9223372036854775807) (fun c hc => by
      obtain ⟨es, rfl, l7, m7, e7, g7⟩ := wt_slice rfl rfl hc
      obtain ⟨r, rfl, q7⟩ := wt_list (f := strE) (q := fun s => s.length ≤ 9223372036854775807) (fun c hc => wt_str rfl rfl hc) es g7
      exact ⟨r, rfl, by simpa using l7, q7⟩) es6 g6
    show PCall Try.prog 9 [.agg [.d (.v (.bool b)), .d (.v (.int .i64 x1)), .d (.s s), .d (.sl (is.map intE)), .d (.sl (ts.map strE)), .d (.sl (rs.map rowE))]] _
    refine Φ0_ok (200 + s.length + (GV.ofInts is).wt + (GV.ofTexts ts).wt + (GV.ofTable rs).wt + 1) 9 _ _ ?_
    generalize hN : 200 + s.length + (GV.ofInts is).wt + (GV.ofTexts ts).wt + (GV.ofTable rs).wt = N
    show Φ0 (N + 1) i_law01_ValueBuilds _ = _
    rw [law01_ValueBuilds_run]
    have e0 := alive_spec N (by omega)
    unfold law01_ValueBuilds
    simp only [List.length_map, xite_decide]
    split
    · rw [cB e0]
    · split
      · rw [cB e0]
      · split
        · rw [cB e0]
        · rename_i h40 h41 h42
          have key := iter_ex (R := A) rs.length (fun k (x : Unit × Int × (Bool × Int × List UInt8 × List (List D) × List (List D) × List (List D) × Unit) × Unit) => x = ((), (k : Int), (b, x1, s, is.map intE, ts.map strE, rs.map rowE, ()), ()) ∧ ∀ r ∈ rs.take k, r.length ≤ 40) (fun r => r = aB true)
            (F := fun (x : Unit × Int × (Bool × Int × List UInt8 × List (List D) × List (List D) × List (List D) × Unit) × Unit) (rec : (Unit × Int × (Bool × Int × List UInt8 × List (List D) × List (List D) × List (List D) × Unit) × Unit) → Option A) =>
                law01_ValueBuilds_l0 (Φ0 N) N (fun i16 b17 i18 s19 l20 l21 l22 => rec ((), i16, (b17, i18, s19, l20, l21, l22, ()), ())) x.2.1 x.2.2.1.1 x.2.2.1.2.1 x.2.2.1.2.2.1 x.2.2.1.2.2.2.1 x.2.2.1.2.2.2.2.1 x.2.2.1.2.2.2.2.2.1)
            (fun k x rec hk hx' hrec => by
              obtain ⟨rfl, hrows⟩ := hx'
              by_cases hlt : k < rs.length
              · have hw := wrap_i (k + 1) (by omega) (by omega)
                have hlt' : (k : Int) < rs.length := by omega
                simp only [law01_ValueBuilds_l0, List.length_map, xElem_map 1 rowE rs k hlt len_rowE, hw, xite_decide, xif_decide, Option.bind_some, len_rowE, get_rowE, xDL_sl, Nat.le_refl, if_true, hlt']
                by_cases hle : (40 : Int) < rs[k].length
                · rw [if_pos hle, cB e0]; exact ⟨_, rfl, rfl⟩
                · rw [if_neg hle]
                  refine hrec _ hlt ⟨rfl, fun r hr => ?_⟩
                  rw [List.take_succ_eq_append_getElem hlt] at hr
                  rcases List.mem_append.1 hr with hr | hr
                  · exact hrows r hr
                  · rw [List.mem_singleton.1 hr]; omega
              · have hke : k = rs.length := by omega
                subst hke
                rw [List.take_length] at hrows
                exact ⟨_, builds_run b x1 s is ts rs hx hs (by omega) (by omega) (by omega) hrows q4 q5 (fun r hr => (q6 r hr).2) N N (by omega) _, rfl⟩) N 0 ((), (0 : Int), (b, x1, s, is.map intE, ts.map strE, rs.map rowE, ()), ()) (by omega) (by omega) ⟨rfl, by simp⟩
          obtain ⟨r, hr, rfl⟩ := key
          exact hr
end Go.Av
