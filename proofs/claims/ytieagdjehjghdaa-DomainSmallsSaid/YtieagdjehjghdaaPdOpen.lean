/-
  Arguments of a law as plain data: a value, an integer, a text. 
-/
import Derived.Test.YtieagdjehjghdaaPdVal4
import Derived.Test.YtieagdjehjghdaaAvLaw
set_option linter.all false
namespace Go.Av
open Go.Proofs

theorem wt_int {T : TT} {n : Nat} {t : TypeId} {i : TI} {ds : List D} (hi : T t = some i) (hk : i.kind = .int .i64) (h : WT T n t ds) : ∃ x : Int, ds = [.v (.int .i64 x)] ∧ -9223372036854775808 ≤ x ∧ x ≤ 9223372036854775807 := by
  cases n with
  | zero => exact h.elim
  | succ n =>
    unfold WT at h
    rw [hi] at h
    simp only [hk] at h
    obtain ⟨x, h1, h2, h3⟩ := h
    exact ⟨x, h1, by simpa [IntKind.min, IntKind.signed, IntKind.bits] using h2, by simpa [IntKind.max, IntKind.signed, IntKind.bits] using h3⟩
theorem wt_bool {T : TT} {n : Nat} {t : TypeId} {i : TI} {ds : List D} (hi : T t = some i) (hk : i.kind = .bool) (h : WT T n t ds) : ∃ x : Bool, ds = [.v (.bool x)] := by
  cases n with
  | zero => exact h.elim
  | succ n =>
    unfold WT at h
    rw [hi] at h
    simp only [hk] at h
    exact h
theorem wt_str {T : TT} {n : Nat} {t : TypeId} {i : TI} {ds : List D} (hi : T t = some i) (hk : i.kind = .str) (h : WT T n t ds) : ∃ x : List UInt8, ds = [.s x] ∧ x.length ≤ 9223372036854775807 := by
  cases n with
  | zero => exact h.elim
  | succ n =>
    unfold WT at h
    rw [hi] at h
    simp only [hk] at h
    exact h
theorem wt_slice {T : TT} {n : Nat} {t e : TypeId} {i : TI} {ds : List D} (hi : T t = some i) (hk : i.kind = .slice e) (h : WT T n t ds) : ∃ es, ds = [.sl es] ∧ es.length ≤ 9223372036854775807 ∧ ∃ m, n = m + 1 ∧ ∀ c ∈ es, WT T m e c := by
  cases n with
  | zero => exact h.elim
  | succ n =>
    unfold WT at h
    rw [hi] at h
    simp only [hk] at h
    obtain ⟨es, h1, h2, h3⟩ := h
    exact ⟨es, h1, h2, n, rfl, h3⟩
theorem wt_struct {T : TT} {n : Nat} {t : TypeId} {i : TI} {ds : List D} {fs : List (Nat × TypeId × Nat)} (hi : T t = some i) (hk : i.kind = .struct fs) (h : WT T n t ds) :
    ∃ dss : List (List D), ds = dss.flatten ∧ dss.length = fs.length ∧ ∃ m, n = m + 1 ∧ ∀ (j : Nat) (f : Nat × TypeId × Nat) (c : List D), fs[j]? = some f → dss[j]? = some c → WT T m f.2.1 c := by
  cases n with
  | zero => exact h.elim
  | succ n =>
    unfold WT at h
    rw [hi] at h
    simp only [hk] at h
    obtain ⟨dss, h1, h2, h3⟩ := h
    exact ⟨dss, h1, h2, n, rfl, h3⟩
/-- The elements of a list, each of its own. -/
theorem wt_list {α : Type} {p : List D → Prop} {f : α → List D} {q : α → Prop} (h : ∀ c, p c → ∃ a, c = f a ∧ q a) : ∀ (es : List (List D)), (∀ c ∈ es, p c) → ∃ l : List α, es = l.map f ∧ ∀ a ∈ l, q a
  | [], _ => ⟨[], rfl, by simp⟩
  | c :: es, hc => by
    obtain ⟨a, h1, h2⟩ := h c (hc c (List.mem_cons_self ..))
    obtain ⟨l, h3, h4⟩ := wt_list h es fun x hx => hc x (List.mem_cons_of_mem _ hx)
    refine ⟨a :: l, by rw [h1, h3]; rfl, fun b hb => ?_⟩
    rcases List.mem_cons.1 hb with rfl | hb
    · exact h2
    · exact h4 b hb

theorem wt_GV : ∀ (n : Nat) (ds : List D), WT TT0 n t_Value ds → ∃ g : GV, ds = g.cells ∧ g.Ok := by
  intro n
  induction n using Nat.strongRecOn with
  | _ n ih =>
    intro ds h
    obtain ⟨dss, rfl, hl, m, rfl, hf⟩ := wt_struct (i := i_Value) rfl rfl h
    match dss, hl with
    | [a, b, c, d], _ =>
      obtain ⟨ty, rfl, h1⟩ := wt_int rfl rfl (hf 0 _ a rfl rfl)
      obtain ⟨num, rfl, h2⟩ := wt_int rfl rfl (hf 1 _ b rfl rfl)
      obtain ⟨text, rfl, h3⟩ := wt_str rfl rfl (hf 2 _ c rfl rfl)
      obtain ⟨es, rfl, h4, m', rfl, h5⟩ := wt_slice rfl rfl (hf 3 _ d rfl rfl)
      obtain ⟨l, rfl, h6⟩ := wt_list (f := GV.cells) (q := GV.Ok) (fun c hc => ih m' (by omega) c hc) es h5
      exact ⟨.mk ty num text l, by simp [GV.cells], .mk ty num text l h3 (by simpa using h4) h1 h2 h6⟩

/-- One argument, of its type. -/
theorem args1 {T : TT} {t : TypeId} {l : List A} (h : ArgsOK T [t] l) : ∃ n ds, WT T n t ds ∧ l = [argA T t ds] := by
  match l, h with
  | [a], h => obtain ⟨⟨n, ds, h1, h2⟩, _⟩ := h; exact ⟨n, ds, h1, by rw [h2]⟩
theorem args2 {T : TT} {t u : TypeId} {l : List A} (h : ArgsOK T [t, u] l) : ∃ n ds m es, WT T n t ds ∧ WT T m u es ∧ l = [argA T t ds, argA T u es] := by
  match l, h with
  | [a, b], h => obtain ⟨⟨n, ds, h1, h2⟩, ⟨m, es, h3, h4⟩, _⟩ := h; exact ⟨n, ds, m, es, h1, h3, by rw [h2, h4]⟩
theorem args3 {T : TT} {t u v : TypeId} {l : List A} (h : ArgsOK T [t, u, v] l) : ∃ n ds m es k fs, WT T n t ds ∧ WT T m u es ∧ WT T k v fs ∧ l = [argA T t ds, argA T u es, argA T v fs] := by
  match l, h with
  | [a, b, c], h => obtain ⟨⟨n, ds, h1, h2⟩, ⟨m, es, h3, h4⟩, ⟨k, fs, h5, h6⟩, _⟩ := h; exact ⟨n, ds, m, es, k, fs, h1, h3, h5, by rw [h2, h4, h6]⟩
theorem argA_GV (g : GV) : argA TT0 t_Value g.cells = g.toA := by rw [GV.cells_eq]; rfl
end Go.Av
