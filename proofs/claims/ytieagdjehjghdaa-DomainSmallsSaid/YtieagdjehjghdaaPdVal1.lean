/-
  The functions on values: what they give, 1: numbers, texts, order.
-/
import Derived.Test.YtieagdjehjghdaaPvData
import Derived.Test.YtieagdjehjghdaaVdRun
set_option linter.all false
set_option linter.unusedSimpArgs false
namespace Go.Av

theorem ref01_sign_spec (b : Bool) (n : Nat) (hn : 1 ≤ n) : Φ0 n i_ref01_sign [aB b] = some (aI (if b then -1 else 1)) := by
  obtain ⟨m, rfl⟩ := nat_succ hn
  rw [ref01_sign_run]
  cases b <;> simp [ref01_sign]

theorem printed_body (l : List UInt8) (hl : l.length ≤ 9223372036854775807) (n : Nat) (hn : l.length + 2 ≤ n) : Φ0 n i_value_printed [aS l] = some (aB (l.all okByte)) := by
  obtain ⟨m, rfl⟩ := nat_succ (n := n) (k := 0) (by omega)
  rw [value_printed_run]
  refine iter_nat l.length (fun k => (l, (k : Int), ())) (fun k => aB ((l.drop k).all okByte)) (fun k rec hk hrec => ?_) m 0 (by omega) (by omega)
  by_cases hlt : k < l.length
  · have hw := wrap_i (k + 1) (by omega) (by omega)
    have hr := hrec hlt
    simp only [value_printed_l0, xite_decide, xIdxS_get l k hlt, Option.bind_some, hw]
    rw [if_pos (by omega), drop_some l k hlt]
    simp only [List.all_cons, okByte]
    have hb : l[k].toNat < 256 := l[k].toNat_lt
    split
    · simp; omega
    · split
      · simp; omega
      · have : (decide (32 ≤ l[k].toNat ∧ l[k].toNat ≤ 126)) = true := by simp; omega
        rw [this]
        simpa [okByte] using hr
  · have hke : k = l.length := by omega
    subst hke
    simp [value_printed_l0]

theorem plain_body (l : List UInt8) (lo hi : Int) (hl : l.length ≤ 9223372036854775807) (n : Nat) (hn : l.length + 2 ≤ n) : Φ0 n i_ref01_plain [aS l, aI lo, aI hi] = some (aI (sizedF l lo hi)) := by
  obtain ⟨m, rfl⟩ := nat_succ (n := n) (k := 0) (by omega)
  rw [ref01_plain_run]
  simp only [ref01_plain, xite_decide, sizedF]
  split
  · rename_i h; simp [h]
  · split
    · rename_i h; simp [h]
    · rename_i h1 h2
      rw [if_neg (by omega)]
      refine iter_nat l.length (fun k => (l, (k : Int), ())) (fun k => aI (if (l.drop k).all okByte then 0 else 1)) (fun k rec hk hrec => ?_) m 0 (by omega) (by omega)
      by_cases hlt : k < l.length
      · have hw := wrap_i (k + 1) (by omega) (by omega)
        have hr := hrec hlt
        have hd : (l.drop k).all okByte = (okByte l[k] && (l.drop (k + 1)).all okByte) := by rw [drop_some l k hlt]; rfl
        simp only [ref01_plain_l0, xite_decide, xIdxS_get l k hlt, Option.bind_some, hw, hd]
        rw [if_pos (by omega)]
        have hb : l[k].toNat < 256 := l[k].toNat_lt
        split
        · have ho : okByte l[k] = false := by simp [okByte]; omega
          simp [ho]
        · split
          · have ho : okByte l[k] = false := by simp [okByte]; omega
            simp [ho]
          · have ho : okByte l[k] = true := by simp [okByte]; omega
            simpa [ho] using hr
      · have hke : k = l.length := by omega
        subst hke
        simp [ref01_plain_l0]

theorem value_ranged_spec (a lo hi : Int) (n : Nat) (hn : 1 ≤ n) : Φ0 n i_value_ranged [aI a, aI lo, aI hi] = some (aI (rangedF a lo hi)) := by
  obtain ⟨m, rfl⟩ := nat_succ hn
  rw [value_ranged_run]
  simp only [value_ranged, xite_decide, rangedF]
  (repeat' split) <;> first | rfl | omega
theorem ref01_within_spec (a lo hi : Int) (n : Nat) (hn : 1 ≤ n) : Φ0 n i_ref01_within [aI a, aI lo, aI hi] = some (aI (rangedF a lo hi)) := by
  obtain ⟨m, rfl⟩ := nat_succ hn
  rw [ref01_within_run]
  simp only [ref01_within, xite_decide, rangedF]
  (repeat' split) <;> first | rfl | omega

theorem value_sized_spec (l : List UInt8) (lo hi : Int) (hl : l.length ≤ 9223372036854775807) (n : Nat) (hn : l.length + 3 ≤ n) : Φ0 n i_value_sized [aS l, aI lo, aI hi] = some (aI (sizedF l lo hi)) := by
  obtain ⟨m, rfl⟩ := nat_succ (n := n) (k := 0) (by omega)
  rw [value_sized_run]
  simp only [value_sized, xite_decide, sizedF, printed_body l hl m (by omega), Option.bind_some, xAD_d, xDB_v, xite_not]
  by_cases h1 : (l.length : Int) < lo
  · simp [h1]
  · by_cases h2 : hi < (l.length : Int)
    · simp [h1, h2]
    · simp only [h1, h2, if_false, or_false]
      cases l.all okByte <;> simp

theorem value_unused_spec (g : GV) (n : Nat) (hn : 1 ≤ n) : Φ0 n i_value_unused [g.toA] = some (aB (unusedF g.ty g.num g.text g.items.length)) := by
  obtain ⟨m, rfl⟩ := nat_succ hn
  rw [value_unused_run]
  simp only [value_unused, xite_decide, unusedF, List.length_map]
  (repeat' split) <;> simp_all <;> omega
end Go.Av
