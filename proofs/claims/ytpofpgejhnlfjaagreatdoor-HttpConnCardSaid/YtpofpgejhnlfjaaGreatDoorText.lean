/- Plain laws on texts: the first place of a byte, a cut, a split. -/
import Derived.Lib.Split
import Derived.Lib.IndexBytes
set_option linter.unusedVariables false
set_option linter.unusedSimpArgs false
namespace Bph
open Go

/-- The first place of a byte. -/
def idx (c : UInt8) : List UInt8 → Option Nat
  | [] => none
  | x :: r => if x = c then some 0 else (idx c r).map (· + 1)
theorem idx_none {c : UInt8} {l : List UInt8} (h : idx c l = none) : c ∉ l := by
  induction l with
  | nil => simp
  | cons x r ih =>
    unfold idx at h
    split at h
    · cases h
    · rename_i hx
      have := ih (by simpa using h)
      simp only [List.mem_cons, not_or]
      exact ⟨fun e => hx e.symm, this⟩
theorem idx_some {c : UInt8} {l : List UInt8} {i : Nat} (h : idx c l = some i) : i < l.length ∧ l[i]? = some c ∧ c ∉ l.take i := by
  induction l generalizing i with
  | nil => cases h
  | cons x r ih =>
    unfold idx at h
    split at h
    · rename_i hx
      cases h
      exact ⟨by simp, by simp [hx], by simp⟩
    · rename_i hx
      obtain ⟨j, hj, rfl⟩ := Option.map_eq_some_iff.1 h
      obtain ⟨h1, h2, h3⟩ := ih hj
      refine ⟨by simp; omega, by simpa using h2, ?_⟩
      simp only [List.take_succ_cons, List.mem_cons, not_or]
      exact ⟨fun e => hx e.symm, h3⟩
theorem idx_mem {c : UInt8} {l : List UInt8} (h : c ∈ l) : ∃ i, idx c l = some i := by
  cases e : idx c l with
  | none => exact absurd h (idx_none e)
  | some i => exact ⟨i, rfl⟩
theorem idx_split {c : UInt8} {l : List UInt8} {i : Nat} (h : idx c l = some i) : l = l.take i ++ c :: l.drop (i + 1) := by
  obtain ⟨h1, h2, _⟩ := idx_some h
  have e : l[i] = c := by rw [List.getElem?_eq_getElem h1] at h2; exact Option.some.inj h2
  conv => lhs; rw [← List.take_append_drop i l, List.drop_eq_getElem_cons h1, e]
theorem idx_append {c : UInt8} {a b : List UInt8} (h : c ∉ a) : idx c (a ++ b) = (idx c b).map (· + a.length) := by
  induction a with
  | nil => simp
  | cons x r ih =>
    simp only [List.mem_cons, not_or] at h
    rw [List.cons_append, idx, if_neg (fun e => h.1 e.symm), ih h.2, Option.map_map]
    congr 1
def idxI (c : UInt8) (l : List UInt8) : Int := match idx c l with | some i => (i : Int) | none => -1
theorem idxI_some {c : UInt8} {l : List UInt8} {i : Nat} (h : idx c l = some i) : idxI c l = i := by unfold idxI; rw [h]
theorem idxI_none {c : UInt8} {l : List UInt8} (h : idx c l = none) : idxI c l = -1 := by unfold idxI; rw [h]
theorem index1 (c : UInt8) (l : List UInt8) : Lib.index l [c] = idxI c l := by
  unfold idxI
  induction l with
  | nil => simp [Lib.index, idx]
  | cons x r ih =>
    have hp : [c].isPrefixOf (x :: r) = (c == x) := by simp [List.isPrefixOf]
    unfold Lib.index idx
    rw [hp, ih]
    by_cases hx : x = c
    · simp [hx]
    · have : (c == x) = false := by simp; exact fun e => hx e.symm
      simp only [this, hx]
      cases e : idx c r with
      | none => simp
      | some i =>
        have h1 : ((i : Int) == -1) = false := by rw [beq_eq_false_iff_ne]; omega
        simp [h1]

def cutB (c : UInt8) (l : List UInt8) : List UInt8 × List UInt8 × Bool :=
  match idx c l with
  | some i => (l.take i, l.drop (i + 1), true)
  | none => (l, [], false)
theorem cut_len (c : UInt8) (l : List UInt8) : (cutB c l).1.length ≤ l.length ∧ (cutB c l).2.1.length ≤ l.length := by
  unfold cutB
  split
  · simp; omega
  · simp
theorem cut1 (c : UInt8) (l : List UInt8) : Lib.cut l [c] = cutB c l := by
  unfold Lib.cut cutB
  rw [index1, idxI]
  cases e : idx c l with
  | none => simp
  | some i => simp

def splitB (c : UInt8) : List UInt8 → List (List UInt8)
  | [] => [[]]
  | x :: r => if x = c then [] :: splitB c r else match splitB c r with | h :: t => (x :: h) :: t | [] => [[x]]
theorem split_none {c : UInt8} {l : List UInt8} (h : idx c l = none) : splitB c l = [l] := by
  induction l with
  | nil => rfl
  | cons x r ih =>
    unfold idx at h
    split at h
    · cases h
    · rename_i hx
      unfold splitB
      rw [if_neg hx, ih (by simpa using h)]
theorem split_some {c : UInt8} {l : List UInt8} {i : Nat} (h : idx c l = some i) : splitB c l = l.take i :: splitB c (l.drop (i + 1)) := by
  induction l generalizing i with
  | nil => cases h
  | cons x r ih =>
    unfold idx at h
    split at h
    · rename_i hx
      cases h
      simp [splitB, hx]
    · rename_i hx
      obtain ⟨j, hj, rfl⟩ := Option.map_eq_some_iff.1 h
      rw [splitB, if_neg hx, ih hj]
      simp
theorem split_length (c : UInt8) (l : List UInt8) : (splitB c l).length = l.count c + 1 := by
  induction l with
  | nil => rfl
  | cons x r ih =>
    unfold splitB
    by_cases hx : x = c
    · rw [if_pos hx]; simp [hx, ih]
    · rw [if_neg hx]
      split
      · rename_i h t e
        rw [e] at ih
        simp [List.count_cons, hx] at ih ⊢
        exact ih
      · rename_i e
        rw [e] at ih
        simp at ih
theorem split_len {c : UInt8} {l : List UInt8} : ∀ p ∈ splitB c l, p.length ≤ l.length := by
  induction l with
  | nil => simp [splitB]
  | cons x r ih =>
    intro p hp
    unfold splitB at hp
    split at hp
    · simp only [List.mem_cons] at hp
      rcases hp with rfl | hp
      · simp
      · have := ih p hp; simp; omega
    · split at hp
      · rename_i h t e
        simp only [List.mem_cons] at hp
        rcases hp with rfl | hp
        · have := ih h (by rw [e]; simp); simp; omega
        · have := ih p (by rw [e]; simp [hp]); simp; omega
      · simp at hp; subst hp; simp
theorem splitK1 (c : UInt8) : ∀ (f : Nat) (l : List UInt8), l.length < f → Lib.splitK [c] 0 (Lib.countFrom [c] f l) l = splitB c l ∧ Lib.countFrom [c] f l + 1 = (splitB c l).length
  | 0, l, h => by omega
  | f + 1, l, h => by
    unfold Lib.countFrom
    rw [index1, idxI]
    cases e : idx c l with
    | none => simp [Lib.splitK, split_none e]
    | some i =>
      have h1 : ((i : Int) == -1) = false := by rw [beq_eq_false_iff_ne]; omega
      have hi := (idx_some e).1
      have ih := splitK1 c f (l.drop (i + 1)) (by simp; omega)
      simp only [h1, Bool.false_eq_true, if_false, List.length_singleton, Int.toNat_natCast]
      rw [Nat.add_comm 1, Lib.splitK, index1, idxI, e]
      simp only [h1, Bool.false_eq_true, if_false, List.length_singleton, Int.toNat_natCast, Nat.add_zero]
      rw [split_some e, ih.1]
      exact ⟨rfl, by simp; omega⟩
theorem countB_split (c : UInt8) (s : ByteArray) : Lib.countB s ⟨#[c]⟩ + 1 = (splitB c s.data.toList).length ∧ (Lib.splitB ⟨#[c]⟩ 0 (Lib.countB s ⟨#[c]⟩) s).map (fun t => t.data.toList) = splitB c s.data.toList := by
  have h := splitK1 c (s.data.toList.length + 1) s.data.toList (by omega)
  have hc : Lib.countB s ⟨#[c]⟩ = Lib.countFrom [c] (s.data.toList.length + 1) s.data.toList := rfl
  refine ⟨by rw [hc]; exact h.2, ?_⟩
  rw [Lib.splitB_data, hc]
  exact h.1
end Bph
