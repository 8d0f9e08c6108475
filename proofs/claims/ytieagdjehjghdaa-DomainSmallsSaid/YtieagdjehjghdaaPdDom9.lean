/-
  Domains: the number of the tuple of a number; the tuple of the number of a tuple.
-/
import Derived.Test.YtieagdjehjghdaaPdDom8
set_option linter.all false
set_option linter.unusedSimpArgs false
namespace Go.Av
open Go.Proofs

theorem placeF_le : ∀ (l : List GV) (v : GV) (c : Int) (k : Nat) (h : k < l.length), l[k].cmp v = 0 → c ≤ placeF l v c ∧ placeF l v c ≤ c + k
  | x :: xs, v, c, 0, h, h0 => by
    rw [placeF, if_pos (by simpa using h0)]
    omega
  | x :: xs, v, c, k + 1, h, h0 => by
    rw [placeF]
    split
    · omega
    · have := placeF_le xs v (c + 1) k (by simpa using h) (by simpa using h0)
      omega
theorem placeF_get : ∀ (l : List GV) (v : GV) (c : Int), 0 ≤ c → 0 ≤ placeF l v c → ∃ k, ∃ h : k < l.length, placeF l v c = c + k ∧ l[k].cmp v = 0
  | [], v, c, _, h => by simp [placeF] at h
  | x :: xs, v, c, hc, h => by
    rw [placeF] at h ⊢
    split at h
    · rename_i h0
      rw [if_pos h0]
      exact ⟨0, by simp, by omega, h0⟩
    · rename_i h0
      rw [if_neg h0]
      obtain ⟨k, hk, h1, h2⟩ := placeF_get xs v (c + 1) (by omega) h
      exact ⟨k + 1, by simpa using hk, by omega, by simpa using h2⟩

/-- Each value at its own place. -/
def AtOwn (d : List (List GV)) : Prop := ∀ a ∈ d, ∀ (k : Nat) (h : k < a.length), placeF a a[k] 0 = k

theorem axChk_own (a : List GV) (t : Int) : ∀ (l : List GV) (k : Nat), l = a.drop k → axChk a t k l = 0 → ∀ (j : Nat) (h : j < a.length), k ≤ j → placeF a a[j] 0 = j
  | [], k, hl, _, j, hj, hkj => by
    have : (a.drop k).length = 0 := by rw [← hl]; rfl
    rw [List.length_drop] at this
    omega
  | v :: vs, k, hl, hc, j, hj, hkj => by
    have hk : k < a.length := by omega
    rw [drop_some a k hk] at hl
    injection hl with h1 h2
    rw [axChk] at hc
    split at hc
    · rename_i c1; exact absurd hc c1
    · split at hc
      · exact absurd hc (by omega)
      · split at hc
        · exact absurd hc (by omega)
        · rename_i c3
          by_cases hjk : j = k
          · subst hjk
            have := placeF_le a a[j] 0 j hj (ordd a[j]).self
            rw [h1] at c3
            omega
          · exact axChk_own a t vs (k + 1) h2 (by exact_mod_cast hc) j hj (by omega)
theorem domChk_own (d0 : List (List GV)) : ∀ (d : List (List GV)) (ts : List Int), d.length = ts.length → domChk d0 d ts = 0 → AtOwn d ∧ (sizeF d0).2 = 0 ∧ (sizeF d0).1 ≤ 4096
  | [], ts, _, h => by
    rw [domChk] at h
    · refine ⟨fun a ha => absurd ha (List.not_mem_nil), ?_⟩
      split at h
      · omega
      · split at h
        · omega
        · rename_i h1 h2; exact ⟨by simpa using h1, by omega⟩
    · simp
  | a :: d, [], hl, h => by simp at hl
  | a :: d, t :: ts, hl, h => by
    rw [domChk] at h
    split at h
    · rename_i c; exact absurd h c
    · rename_i c
      obtain ⟨h1, h2⟩ := domChk_own d0 d ts (by simpa using hl) h
      refine ⟨fun b hb => ?_, h2⟩
      rcases List.mem_cons.1 hb with rfl | hb
      · intro k hk
        exact axChk_own b t b 0 rfl (by simpa using c) k hk (by omega)
      · exact h1 b hb
theorem checkF_own (d : List (List GV)) (ts : List Int) (h : checkF d ts = 0) : AtOwn d ∧ (sizeF d).2 = 0 ∧ (sizeF d).1 ≤ 4096 := by
  unfold checkF at h
  split at h
  · omega
  · rename_i hl; exact domChk_own d d ts (by simpa using hl) h

/-- The product of the lengths. -/
def lenP : List (List GV) → Nat
  | [] => 1
  | a :: d => a.length * lenP d
theorem prodF_eq : ∀ (d : List (List GV)) (n : Int), (prodF d n).2 = 0 → (prodF d n).1 = n * lenP d
  | [], n, _ => by simp [prodF, lenP]
  | a :: d, n, h => by
    rw [prodF] at h ⊢
    split at h
    · simp at h
    · rename_i hh
      rw [if_neg hh, prodF_eq d _ h, lenP, Int.natCast_mul, Int.mul_assoc]
theorem sizeF_eq (d : List (List GV)) (h : (sizeF d).2 = 0) (hp : 0 < (sizeF d).1) : (sizeF d).1 = lenP d := by
  unfold sizeF at h hp ⊢
  split at h
  · rename_i hh; rw [if_pos hh] at hp; exact absurd hp (by simp)
  · rename_i hh; rw [if_neg hh, prodF_eq d 1 h]; omega
theorem lenP_empty : ∀ (d : List (List GV)), d.any (fun a => a.length = 0) = true → lenP d = 0
  | [], h => by simp at h
  | a :: d, h => by
    rw [List.any_cons, Bool.or_eq_true] at h
    rcases h with h | h
    · simp only [decide_eq_true_eq] at h; simp [lenP, h]
    · simp [lenP, lenP_empty d h]
theorem sizeF_eq' (d : List (List GV)) (h : (sizeF d).2 = 0) : (sizeF d).1 = lenP d := by
  unfold sizeF at h ⊢
  split at h
  · rename_i hh; rw [if_pos hh, lenP_empty d hh]; rfl
  · rename_i hh; rw [if_neg hh, prodF_eq d 1 h]; omega

theorem mod_mul' (n p q : Nat) : n % (q * p) = (n / p % q) * p + n % p := by
  rw [Nat.mul_comm q p, Nat.mod_mul, Nat.mul_comm p, Nat.add_comm]

/-- The number of the tuple of a number. -/
theorem idx_dig : ∀ (d : List (List GV)), AtOwn d → (∀ a ∈ d, 0 < a.length) → ∀ (n c : Nat), (c + 1) * lenP d ≤ 4611686018427387904 →
    (digF d (n : Int)).2 = ((n / lenP d : Nat) : Int) ∧ idxF d (digF d (n : Int)).1 (c : Int) = (((c * lenP d + n % lenP d : Nat) : Int), true)
  | [], _, _, n, c, _ => by
    refine ⟨by simp [digF, lenP], ?_⟩
    rw [idxF]
    · simp [lenP, Nat.mod_one]
    · simp
  | a :: d, ho, h0, n, c, hb => by
    have ha : 0 < a.length := h0 a (List.mem_cons_self ..)
    have hd0 := fun b hb => h0 b (List.mem_cons_of_mem a hb)
    have hod : AtOwn d := fun b hb => ho b (List.mem_cons_of_mem a hb)
    have hP : 0 < lenP d := by
      have : ∀ (e : List (List GV)), (∀ b ∈ e, 0 < b.length) → 0 < lenP e := by
        intro e
        induction e with
        | nil => intro _; simp [lenP]
        | cons b e ih => intro h; exact Nat.mul_pos (h b (List.mem_cons_self ..)) (ih fun x hx => h x (List.mem_cons_of_mem _ hx))
      exact this d hd0
    simp only [lenP] at hb
    have hr : n / lenP d % a.length < a.length := Nat.mod_lt _ ha
    have hb' : (c * a.length + n / lenP d % a.length + 1) * lenP d ≤ 4611686018427387904 := by
      refine Nat.le_trans ?_ hb
      rw [← Nat.mul_assoc]
      refine Nat.mul_le_mul_right _ ?_
      rw [Nat.add_mul]; omega
    obtain ⟨e1, e2⟩ := idx_dig d hod hd0 n (c * a.length + n / lenP d % a.length) hb'
    have hci : ((digF d (n : Int)).2 % (a.length : Int)).toNat = n / lenP d % a.length := by
      rw [e1, ← Int.natCast_emod, Int.toNat_natCast]
    have hga : a.getD (n / lenP d % a.length) z0 = a[n / lenP d % a.length] := by simp [hr]
    have hpl := ho a (List.mem_cons_self ..) _ hr
    refine ⟨?_, ?_⟩
    · simp only [digF, e1, lenP]
      rw [← Int.natCast_ediv, Nat.div_div_eq_div_mul, Nat.mul_comm (lenP d)]
    · simp only [digF, idxF, hci, hga, hpl]
      have hs : c * a.length + n / lenP d % a.length + 1 ≤ 4611686018427387904 := Nat.le_trans (Nat.le_mul_of_pos_right _ hP) hb'
      have hw1 : IntKind.i64.wrap ((c : Int) * a.length) = ((c * a.length : Nat) : Int) := by
        rw [← Int.natCast_mul]; exact wrap_i _ (by omega) (by omega)
      have hw2 : IntKind.i64.wrap (((c * a.length : Nat) : Int) + ((n / lenP d % a.length : Nat) : Int)) = ((c * a.length + n / lenP d % a.length : Nat) : Int) := by
        rw [← Int.natCast_add]; exact wrap_i _ (by omega) (by omega)
      rw [if_neg (by omega), hw1, hw2, e2, lenP, mod_mul' n (lenP d) a.length, Nat.add_mul, Nat.mul_assoc, Nat.add_assoc]

/-- The tuple of the number of a tuple. -/
theorem dig_idx : ∀ (d : List (List GV)) (t : List GV), t.length = d.length → (∀ a ∈ d, 0 < a.length) → ∀ (c : Nat) (n : Int), (c + 1) * lenP d ≤ 4611686018427387904 → idxF d t (c : Int) = (n, true) →
    ∃ r, r < lenP d ∧ n = ((c * lenP d + r : Nat) : Int) ∧ digF d n = (t, (c : Int))
  | [], [], _, _, c, n, _, h => by
    rw [idxF] at h
    · injection h with h1 _
      subst h1
      exact ⟨0, by simp [lenP], by simp [lenP], rfl⟩
    · simp
  | [], _ :: _, hl, _, _, _, _, _ => by simp at hl
  | _ :: _, [], hl, _, _, _, _, _ => by simp at hl
  | a :: d, g :: t, hl, h0, c, n, hb, h => by
    have hd0 := fun b hb => h0 b (List.mem_cons_of_mem a hb)
    have hP : 0 < lenP d := by
      have : ∀ (e : List (List GV)), (∀ b ∈ e, 0 < b.length) → 0 < lenP e := by
        intro e
        induction e with
        | nil => intro _; simp [lenP]
        | cons b e ih => intro h; exact Nat.mul_pos (h b (List.mem_cons_self ..)) (ih fun x hx => h x (List.mem_cons_of_mem _ hx))
      exact this d hd0
    rw [idxF] at h
    split at h
    · simp at h
    · rename_i hp
      obtain ⟨p, hpa, hp1, hp2⟩ := placeF_get a g 0 (by omega) (by omega)
      simp only [lenP] at hb
      have hb' : (c * a.length + p + 1) * lenP d ≤ 4611686018427387904 := by
        refine Nat.le_trans ?_ hb
        rw [← Nat.mul_assoc]
        refine Nat.mul_le_mul_right _ ?_
        rw [Nat.add_mul]; omega
      have hs : c * a.length + p + 1 ≤ 4611686018427387904 := Nat.le_trans (Nat.le_mul_of_pos_right _ hP) hb'
      have hw1 : IntKind.i64.wrap ((c : Int) * a.length) = ((c * a.length : Nat) : Int) := by
        rw [← Int.natCast_mul]; exact wrap_i _ (by omega) (by omega)
      have hw2 : IntKind.i64.wrap (((c * a.length : Nat) : Int) + (0 + (p : Int))) = ((c * a.length + p : Nat) : Int) := by
        have : ((c * a.length : Nat) : Int) + (0 + (p : Int)) = ((c * a.length + p : Nat) : Int) := by rw [Int.natCast_add]; omega
        rw [this]; exact wrap_i _ (by omega) (by omega)
      rw [hw1, hp1, hw2] at h
      obtain ⟨r, hr, hn, hdig⟩ := dig_idx d t (by simpa using hl) hd0 (c * a.length + p) n hb' h
      have hge : a[p] = g := (ordd a[p]).zero g hp2
      have hm1 : (c * a.length + p) % a.length = p := by rw [Nat.add_comm, Nat.add_mul_mod_self_right, Nat.mod_eq_of_lt hpa]
      have hm2 : (c * a.length + p) / a.length = c := by rw [Nat.add_comm, Nat.add_mul_div_right _ _ (by omega), Nat.div_eq_of_lt hpa, Nat.zero_add]
      refine ⟨p * lenP d + r, ?_, ?_, ?_⟩
      · simp only [lenP]
        have : (p + 1) * lenP d ≤ a.length * lenP d := Nat.mul_le_mul_right _ hpa
        rw [Nat.add_mul] at this
        omega
      · rw [hn, lenP, Nat.add_mul, Nat.mul_assoc, Nat.add_assoc]
      · simp only [digF, hdig]
        rw [← Int.natCast_emod, Int.toNat_natCast, hm1, ← Int.natCast_ediv, hm2]
        have : a.getD p z0 = a[p] := by simp [hpa]
        rw [this, hge]
theorem idx_full : ∀ (d : List (List GV)) (t : List GV), t.length = d.length → ∀ (c n : Int), idxF d t c = (n, true) → ∀ a ∈ d, 0 < a.length
  | [], _, _, _, _, _, a, ha => by cases ha
  | _ :: _, [], hl, _, _, _, _, _ => by simp at hl
  | b :: d, g :: t, hl, c, n, h, a, ha => by
    rw [idxF] at h
    split at h
    · simp at h
    · rename_i hp
      rcases List.mem_cons.1 ha with rfl | ha
      · cases a with
        | nil => simp [placeF] at hp
        | cons x xs => simp
      · exact idx_full d t (by simpa using hl) _ _ h a ha
end Go.Av
