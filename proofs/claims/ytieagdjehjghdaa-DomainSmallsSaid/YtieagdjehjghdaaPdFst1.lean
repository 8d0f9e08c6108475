/-
  The words over two letters, in order; what the constructors and the lists of words give.
-/
import Derived.Test.YtieagdjehjghdaaPdDom8
set_option linter.all false
set_option linter.unusedSimpArgs false
set_option maxRecDepth 100000
namespace Go.Av
open Go.Proofs

def WW : List (List UInt8) := [[], [97], [98], [97, 97], [97, 98], [98, 97], [98, 98], [97, 97, 97], [97, 97, 98], [97, 98, 97], [97, 98, 98], [98, 97, 97], [98, 97, 98], [98, 98, 97], [98, 98, 98], [97, 97, 97, 97], [97, 97, 97, 98], [97, 97, 98, 97], [97, 97, 98, 98], [97, 98, 97, 97], [97, 98, 97, 98], [97, 98, 98, 97], [97, 98, 98, 98], [98, 97, 97, 97], [98, 97, 97, 98], [98, 97, 98, 97], [98, 97, 98, 98], [98, 98, 97, 97], [98, 98, 97, 98], [98, 98, 98, 97], [98, 98, 98, 98], [97, 97, 97, 97, 97], [97, 97, 97, 97, 98], [97, 97, 97, 98, 97], [97, 97, 97, 98, 98], [97, 97, 98, 97, 97], [97, 97, 98, 97, 98], [97, 97, 98, 98, 97], [97, 97, 98, 98, 98], [97, 98, 97, 97, 97], [97, 98, 97, 97, 98], [97, 98, 97, 98, 97], [97, 98, 97, 98, 98], [97, 98, 98, 97, 97], [97, 98, 98, 97, 98], [97, 98, 98, 98, 97], [97, 98, 98, 98, 98], [98, 97, 97, 97, 97], [98, 97, 97, 97, 98], [98, 97, 97, 98, 97], [98, 97, 97, 98, 98], [98, 97, 98, 97, 97], [98, 97, 98, 97, 98], [98, 97, 98, 98, 97], [98, 97, 98, 98, 98], [98, 98, 97, 97, 97], [98, 98, 97, 97, 98], [98, 98, 97, 98, 97], [98, 98, 97, 98, 98], [98, 98, 98, 97, 97], [98, 98, 98, 97, 98], [98, 98, 98, 98, 97], [98, 98, 98, 98, 98], [97, 97, 97, 97, 97, 97], [97, 97, 97, 97, 97, 98], [97, 97, 97, 97, 98, 97], [97, 97, 97, 97, 98, 98]]
theorem ww_len : WW.length = 67 := by decide
theorem ww_next : ∀ k, k < 33 → WW[2 * k + 1]? = some (WW.getD k [] ++ [97]) ∧ WW[2 * k + 2]? = some (WW.getD k [] ++ [98]) := by decide
theorem ww_ok : ∀ w ∈ WW, w.length ≤ 6 ∧ ∀ c ∈ w, c = 97 ∨ c = 98 := by decide
def wd (i : Nat) : List UInt8 := WW.getD i []
def dW (l : List (List UInt8)) : List (List D) := l.map fun w => [D.s w]
theorem wd_ok (i : Nat) : (wd i).length ≤ 6 ∧ ∀ c ∈ wd i, c = 97 ∨ c = 98 := by
  by_cases h : i < WW.length
  · have : wd i = WW[i] := by simp [wd, h]
    rw [this]; exact ww_ok _ (List.getElem_mem h)
  · have : wd i = [] := by simp [wd, List.getD, List.getElem?_eq_none (by omega : WW.length ≤ i)]
    rw [this]; simp

theorem value_OfInt_spec (x : Int) (n : Nat) (hn : 1 ≤ n) : Φ0 n i_value_OfInt [aI x] = some (aG 2 x [] []) := by
  obtain ⟨m, rfl⟩ := nat_succ (n := n) (k := 0) (by omega)
  rw [value_OfInt_run]; simp [value_OfInt]
theorem ref01_OfInt_spec (x : Int) (n : Nat) (hn : 1 ≤ n) : Φ0 n i_ref01_OfInt [aI x] = some (aG 2 x [] []) := by
  obtain ⟨m, rfl⟩ := nat_succ (n := n) (k := 0) (by omega)
  rw [ref01_OfInt_run]; simp [ref01_OfInt]
theorem value_OfText_spec (x : List UInt8) (n : Nat) (hn : 1 ≤ n) : Φ0 n i_value_OfText [aS x] = some (aG 3 0 x []) := by
  obtain ⟨m, rfl⟩ := nat_succ (n := n) (k := 0) (by omega)
  rw [value_OfText_run]; simp [value_OfText]
theorem ref01_OfText_spec (x : List UInt8) (n : Nat) (hn : 1 ≤ n) : Φ0 n i_ref01_OfText [aS x] = some (aG 3 0 x []) := by
  obtain ⟨m, rfl⟩ := nat_succ (n := n) (k := 0) (by omega)
  rw [ref01_OfText_run]; simp [ref01_OfText]
theorem value_OfPattern_spec (x : List UInt8) (n : Nat) (hn : 1 ≤ n) : Φ0 n i_value_OfPattern [aS x] = some (aG 8 0 x []) := by
  obtain ⟨m, rfl⟩ := nat_succ (n := n) (k := 0) (by omega)
  rw [value_OfPattern_run]; simp [value_OfPattern]
theorem ref01_OfPattern_spec (x : List UInt8) (n : Nat) (hn : 1 ≤ n) : Φ0 n i_ref01_OfPattern [aS x] = some (aG 8 0 x []) := by
  obtain ⟨m, rfl⟩ := nat_succ (n := n) (k := 0) (by omega)
  rw [ref01_OfPattern_run]; simp [ref01_OfPattern]
theorem value_OfBits_spec (x : Int) (n : Nat) (hn : 1 ≤ n) : Φ0 n i_value_OfBits [aI x] = some (aG 4 x [] []) := by
  obtain ⟨m, rfl⟩ := nat_succ (n := n) (k := 0) (by omega)
  rw [value_OfBits_run]; simp [value_OfBits]
theorem ref01_OfBits_spec (x : Int) (n : Nat) (hn : 1 ≤ n) : Φ0 n i_ref01_OfBits [aI x] = some (aG 4 x [] []) := by
  obtain ⟨m, rfl⟩ := nat_succ (n := n) (k := 0) (by omega)
  rw [ref01_OfBits_run]; simp [ref01_OfBits]
theorem value_OfBool_spec (x : Bool) (n : Nat) (hn : 1 ≤ n) : Φ0 n i_value_OfBool [aB x] = some (aG 1 (if x then 1 else 0) [] []) := by
  obtain ⟨m, rfl⟩ := nat_succ (n := n) (k := 0) (by omega)
  rw [value_OfBool_run]; cases x <;> simp [value_OfBool]
theorem ref01_OfBool_spec (x : Bool) (n : Nat) (hn : 1 ≤ n) : Φ0 n i_ref01_OfBool [aB x] = some (aG 1 (if x then 1 else 0) [] []) := by
  obtain ⟨m, rfl⟩ := nat_succ (n := n) (k := 0) (by omega)
  rw [ref01_OfBool_run]; cases x <;> simp [ref01_OfBool]

theorem dW_elem (N k : Nat) (h : k < N) (hN : N ≤ 67) : xElem 1 (dW (WW.take N)) (k : Int) = some [D.s (wd k)] := by
  have hl : k < (WW.take N).length := by rw [List.length_take, ww_len]; omega
  have := xElem_map 1 (fun w => [D.s w]) (WW.take N) k hl (fun _ => rfl)
  rw [dW, this]
  have hk : k < WW.length := by rw [ww_len]; omega
  simp [wd, hk]
theorem dW_len (N : Nat) (hN : N ≤ 67) : (dW (WW.take N)).length = N := by rw [dW, List.length_map, List.length_take, ww_len]; omega
theorem dW_app (k : Nat) (hk : k < 33) : xApp 1 16 (dW (WW.take (2 * k + 1))).length (dW (WW.take (2 * k + 1))) [[D.s (wd k ++ [97])], [D.s (wd k ++ [98])]] = some (dW (WW.take (2 * (k + 1) + 1))) := by
  have hlen := dW_len (2 * k + 1) (by omega)
  unfold xApp
  rw [if_pos ⟨rfl, by simp, fun c hc => by obtain ⟨g', _, rfl⟩ := List.mem_map.1 hc; rfl, by rw [hlen]; simp; omega⟩]
  obtain ⟨e1, e2⟩ := ww_next k hk
  have h1 : 2 * (k + 1) + 1 = 2 * k + 1 + 1 + 1 := by omega
  rw [h1, List.take_add_one (i := 2 * k + 1 + 1), List.take_add_one (i := 2 * k + 1), e1]
  have e2' : WW[2 * k + 1 + 1]? = some (WW.getD k [] ++ [98]) := e2
  rw [e2']
  simp [dW, wd]
theorem dW_sub (N a b : Nat) (hN : N ≤ 67) (ha : a ≤ b) (hb : b ≤ N) : xSubL 1 (dW (WW.take N)) (a : Int) (b : Int) = some (dW ((WW.take b).drop a)) := by
  have hlen := dW_len N hN
  unfold xSubL
  rw [if_pos ⟨fun c hc => by obtain ⟨g', _, rfl⟩ := List.mem_map.1 hc; rfl, by omega, by omega, by rw [hlen]; omega⟩]
  simp only [Int.toNat_natCast, dW, ← List.map_take, ← List.map_drop, List.take_take, Nat.min_eq_left hb]

theorem domain_letters_spec (N : Nat) (h1 : 1 ≤ N) (h65 : N ≤ 65) (n : Nat) (hn : 40 ≤ n) : Φ0 n i_domain_letters [aI N] = some (.one (.d (.sl (dW (WW.take N))))) := by
  obtain ⟨m, rfl⟩ := nat_succ (n := n) (k := 0) (by omega)
  rw [domain_letters_run, domain_letters]
  simp only [decide_true, xif_true]
  refine iter_ex' (R := A) 33 (fun k x => x = ((N : Int), dW (WW.take (2 * k + 1)), (k : Int), ())) _ (fun k x rec hk hx hrec => ?_) m 0 _ (by omega) (by omega) rfl
  subst hx
  by_cases hlt : 2 * k + 1 < N
  · have hk33 : k < 33 := by omega
    have hlt' : ((dW (WW.take (2 * k + 1))).length : Int) < (N : Int) := by rw [dW_len _ (by omega)]; omega
    have hw := wrap_i (k + 1) (by omega) (by omega)
    have he := dW_elem (2 * k + 1) k (by omega) (by omega)
    have ha := dW_app k hk33
    have hl := (wd_ok k).1
    have hs1 : (wd k).length + [(97 : Nat)].length ≤ 9223372036854775807 := by simp; omega
    have hs2 : (wd k).length + [(98 : Nat)].length ≤ 9223372036854775807 := by simp; omega
    have h11 : 1 ≤ [D.s (wd k)].length := by simp
    simp only [domain_letters_l0, hlt', hw, he, ha, hs1, hs2, h11, xite_decide, xif_decide, Option.bind_some, xDS_s, List.getD_cons_zero, if_true]
    exact hrec _ hk33 rfl
  · have hlt' : ¬ ((dW (WW.take (2 * k + 1))).length : Int) < (N : Int) := by rw [dW_len _ (by omega)]; omega
    have hs := dW_sub (2 * k + 1) 0 N (by omega) (by omega) (by omega)
    simp only [domain_letters_l0, hlt', xite_decide, if_false]
    rw [show ((0 : Int)) = ((0 : Nat) : Int) from rfl, hs]
    rfl

theorem ref19_words_spec (N : Nat) (b : Bool) (h64 : N ≤ 64) (n : Nat) (hn : 40 ≤ n) : Φ0 n i_ref19_words [aI N, aB b] = some (.one (.d (.sl (dW (if b then (WW.take (N + 1)).drop 1 else WW.take N))))) := by
  obtain ⟨m, rfl⟩ := nat_succ (n := n) (k := 0) (by omega)
  rw [ref19_words_run, ref19_words]
  simp only [decide_true, xif_true]
  refine iter_ex' (R := A) 33 (fun k x => x = ((N : Int), b, dW (WW.take (2 * k + 1)), (k : Int), ())) _ (fun k x rec hk hx hrec => ?_) m 0 _ (by omega) (by omega) rfl
  subst hx
  by_cases hlt : 2 * k + 1 ≤ N
  · have hk33 : k < 33 := by omega
    have hlt' : ((dW (WW.take (2 * k + 1))).length : Int) ≤ (N : Int) := by rw [dW_len _ (by omega)]; omega
    have hw := wrap_i (k + 1) (by omega) (by omega)
    have he := dW_elem (2 * k + 1) k (by omega) (by omega)
    have ha := dW_app k hk33
    have hl := (wd_ok k).1
    have hs1 : (wd k).length + [(97 : Nat)].length ≤ 9223372036854775807 := by simp; omega
    have hs2 : (wd k).length + [(98 : Nat)].length ≤ 9223372036854775807 := by simp; omega
    have h11 : 1 ≤ [D.s (wd k)].length := by simp
    simp only [ref19_words_l0, hlt', hw, he, ha, hs1, hs2, h11, xite_decide, xif_decide, Option.bind_some, xDS_s, List.getD_cons_zero, if_true]
    exact hrec _ hk33 rfl
  · have hlt' : ¬ ((dW (WW.take (2 * k + 1))).length : Int) ≤ (N : Int) := by rw [dW_len _ (by omega)]; omega
    have hw := wrap_i (N + 1) (by omega) (by omega)
    simp only [ref19_words_l0, hlt', hw, xite_decide, if_false]
    cases b
    · have hs := dW_sub (2 * k + 1) 0 N (by omega) (by omega) (by omega)
      rw [xite_false, show ((0 : Int)) = ((0 : Nat) : Int) from rfl, hs]
      rfl
    · have hs := dW_sub (2 * k + 1) 1 (N + 1) (by omega) (by omega) (by omega)
      rw [xite_true, show ((1 : Int)) = ((1 : Nat) : Int) from rfl, show ((N : Int) + ((1 : Nat) : Int)) = ((N + 1 : Nat) : Int) from rfl, hs]
      rfl

theorem runeAt_ascii (l : List UInt8) (k : Nat) (h : k < l.length) (hc : l[k].toNat < 128) : runeAt l k = (l[k].toNat, 1) := by
  have hg : (⟨l.toArray⟩ : ByteArray).get! (k + 0) = l[k] := by
    show l.toArray[k + 0]! = l[k]
    simp [h]
  unfold runeAt Utf8.decode
  simp only [hg]
  rw [if_pos hc]
end Go.Av
