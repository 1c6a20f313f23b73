/- The plain law of layer 27's reference: that its parts are those of the plain parser. No program in sight. -/
import Derived.Test.YtpofpgejhnlfjaaGreatDoorHttpSpec
set_option linter.unusedVariables false
set_option linter.unusedSimpArgs false
namespace Bph

/-- Escapes taken away, whatever comes. -/
def raw (plus : Bool) : List UInt8 → Option (List UInt8)
  | [] => some []
  | c :: r =>
    if c = 37 then
      match r with
      | a :: b :: r' => if hexI a < 0 ∨ hexI b < 0 then none else (raw plus r').map (hexB a b :: ·)
      | _ => none
    else (raw plus r).map ((if c = 43 ∧ plus = true then 32 else c) :: ·)
theorem raw_short (plus : Bool) (r : List UInt8) (h : r.length < 2) : raw plus (37 :: r) = none := by
  match r, h with
  | [], _ => simp [raw]
  | [a], _ => simp [raw]
  | a :: b :: r', h => simp at h; omega
theorem raw_pct (plus : Bool) (a b : UInt8) (r : List UInt8) : raw plus (37 :: a :: b :: r) = if hexI a < 0 ∨ hexI b < 0 then none else (raw plus r).map (hexB a b :: ·) := by
  simp [raw]
theorem raw_plain (plus : Bool) (c d : UInt8) (r : List UInt8) (hc : c ≠ 37) (hd : d = if c = 43 ∧ plus = true then 32 else c) : raw plus (c :: r) = (raw plus r).map (d :: ·) := by
  subst hd
  rw [raw.eq_def]
  simp [hc]
def priO (x : List UInt8) : Option (List UInt8) := if x.all isPri = true then some x else none
theorem priO_yes {x : List UInt8} (h : x.all isPri = true) : priO x = some x := if_pos h
theorem priO_no {x : List UInt8} (h : x.all isPri = false) : priO x = none := if_neg (by rw [h]; simp)
theorem priO_cons (d : UInt8) (o : Option (List UInt8)) : (o.map (d :: ·)).bind priO = if isPri d = true then (o.bind priO).map (d :: ·) else none := by
  cases o with
  | none => simp
  | some x =>
    simp only [Option.map_some, Option.bind_some]
    by_cases h1 : isPri d = true
    · rw [if_pos h1]
      cases h2 : x.all isPri with
      | true => rw [priO_yes h2, priO_yes (by rw [List.all_cons, h1, h2]; rfl)]; rfl
      | false => rw [priO_no h2, priO_no (by rw [List.all_cons, h2, Bool.and_false])]; rfl
    · rw [if_neg h1, priO_no (by rw [List.all_cons]; simp only [Bool.not_eq_true] at h1; rw [h1, Bool.false_and])]
theorem unesc_raw (plus : Bool) (l : List UInt8) : unesc plus l = (raw plus l).bind priO := by
  induction hk : l.length using Nat.strongRecOn generalizing l with
  | _ k ih =>
    match l with
    | [] => simp [unesc, raw, priO]
    | c :: r =>
      by_cases hc : c = 37
      · subst hc
        match r with
        | [] => rw [unesc_pct_short _ _ (by simp), raw_short _ _ (by simp)]; rfl
        | [a] => rw [unesc_pct_short _ _ (by simp), raw_short _ _ (by simp)]; rfl
        | a :: b :: r' =>
          rw [unesc_pct, raw_pct]
          split
          · rfl
          · rw [priO_cons, ih r'.length (by subst hk; simp; omega) r' rfl]
      · rw [unesc_plain plus c _ r hc rfl, raw_plain plus c _ r hc rfl, priO_cons, ih r.length (by subst hk; simp) r rfl]
theorem unesc_of_raw {plus : Bool} {l x : List UInt8} (h : raw plus l = some x) : unescB plus l = x.all isPri ∧ (x.all isPri = true → unescS plus l = x) := by
  unfold unescB unescS
  rw [unesc_raw, h]
  simp only [Option.bind_some]
  cases h2 : x.all isPri with
  | true => rw [priO_yes h2]; simp
  | false => rw [priO_no h2]; simp
theorem unesc_of_none {plus : Bool} {l : List UInt8} (h : raw plus l = none) : unescB plus l = false := by
  unfold unescB
  rw [unesc_raw, h]
  rfl

/-! ### parameters, one after the other -/
theorem parts_nil : partsOk (splitB 38 []) = true ∧ partsP (splitB 38 []) = [] := by
  simp [splitB, partsOk, partsP, partOk, partP, cutB, idx, unescB, unescS, unesc, someP]
theorem parts_cut (q : List UInt8) : partsOk (splitB 38 q) = (partOk (cutB 38 q).1 && partsOk (splitB 38 (cutB 38 q).2.1)) ∧
    partsP (splitB 38 q) = (if someP (partP (cutB 38 q).1) = true then [partP (cutB 38 q).1] else []) ++ partsP (splitB 38 (cutB 38 q).2.1) := by
  unfold cutB
  cases e : idx 38 q with
  | none =>
    rw [split_none e]
    simp only
    rw [parts_nil.1, parts_nil.2]
    refine ⟨by simp [partsOk], ?_⟩
    simp only [partsP, List.map_cons, List.map_nil, List.filter_cons, List.filter_nil, List.append_nil]
  | some i =>
    rw [split_some e]
    simp only
    refine ⟨by simp [partsOk], ?_⟩
    simp only [partsP, List.map_cons, List.filter_cons]
    split <;> simp
theorem cut_lt (c : UInt8) (q : List UInt8) (h : q ≠ []) : (cutB c q).2.1.length < q.length := by
  unfold cutB
  cases e : idx c q with
  | none => cases q with | nil => exact absurd rfl h | cons _ _ => simp
  | some i => have := (idx_some e).1; simp; omega

/-! ### trimming -/
def trimR (l : List UInt8) : List UInt8 := (l.reverse.dropWhile isBl).reverse
theorem trim_def (l : List UInt8) : trim l = trimL (trimR l) := rfl
theorem trimR_snoc (l : List UInt8) (c : UInt8) : trimR (l ++ [c]) = if isBl c = true then trimR l else l ++ [c] := by
  unfold trimR
  rw [List.reverse_append, List.reverse_singleton, List.singleton_append, List.dropWhile_cons]
  split <;> simp
theorem trimR_cons (c : UInt8) (l : List UInt8) (h : isBl c = false) : trimR (c :: l) = c :: trimR l := by
  unfold trimR
  rw [List.reverse_cons, List.dropWhile_append]
  split
  · rename_i hx
    rw [List.isEmpty_iff] at hx
    rw [hx]
    simp [List.dropWhile_cons, h]
  · simp
theorem trimR_cons_bl (c : UInt8) (l : List UInt8) (h : isBl c = true) : trimL (trimR (c :: l)) = trimL (trimR l) := by
  unfold trimR
  rw [List.reverse_cons, List.dropWhile_append]
  split
  · rename_i hx
    rw [List.isEmpty_iff] at hx
    rw [hx]
    simp [List.dropWhile_cons, h, trimL]
  · simp [trimL, List.dropWhile_cons, h]
theorem trim_left (l : List UInt8) : trim l = trimR (trimL l) := by
  rw [trim_def]
  induction l with
  | nil => rfl
  | cons c r ih =>
    cases h : isBl c with
    | true => rw [trimR_cons_bl c r h, ih]; simp [trimL, List.dropWhile_cons, h]
    | false => rw [trimR_cons c r h]; simp [trimL, List.dropWhile_cons, h, trimR_cons c r h]
theorem trimL_cons (c : UInt8) (l : List UInt8) : trimL (c :: l) = if isBl c = true then trimL l else c :: l := by
  unfold trimL
  rw [List.dropWhile_cons]

/-! ### numbers -/
theorem ratoi_cons (n : Nat) (c : UInt8) (l : List UInt8) : atoiD n (c :: l) = atoiD (10 * n + (c.toNat - 48)) l := by
  conv => lhs; unfold atoiD
theorem ratoi_nil (n : Nat) : atoiD n [] = n := by unfold atoiD; rfl
theorem ratoi_snoc (n : Nat) (l : List UInt8) (c : UInt8) : atoiD n (l ++ [c]) = 10 * atoiD n l + (c.toNat - 48) := by
  induction l generalizing n with
  | nil => rw [List.nil_append, ratoi_cons, ratoi_nil, ratoi_nil]
  | cons x r ih => rw [List.cons_append, ratoi_cons, ratoi_cons]; exact ih _
theorem ratoi_lt (n : Nat) (l : List UInt8) (h : l.all isDig = true) : atoiD n l + 1 ≤ (n + 1) * 10 ^ l.length := by
  induction l generalizing n with
  | nil => rw [ratoi_nil]; simp
  | cons x r ih =>
    rw [List.all_cons, Bool.and_eq_true] at h
    have h2 := h.1
    simp [isDig] at h2
    rw [ratoi_cons, List.length_cons, Nat.pow_succ, Nat.mul_comm (10 ^ r.length), ← Nat.mul_assoc]
    refine Nat.le_trans (ih _ h.2) (Nat.mul_le_mul_right _ ?_)
    omega

/-! ### lines -/
def refLine (l : List UInt8) : List UInt8 × Int :=
  match crlf l with
  | some n => if n ≤ 4096 then (l.take n, (n : Int) + 2) else ([], -1)
  | none => if 4098 ≤ l.length then ([], -1) else ([], 0)
theorem refLine_le (l : List UInt8) : (refLine l).2 ≤ l.length ∧ (refLine l).1.length ≤ 4096 := by
  unfold refLine
  cases e : crlf l with
  | some n =>
    have := (crlf_some e).1
    simp only
    split <;> simp <;> omega
  | none =>
    simp only
    split <;> simp <;> omega
theorem refLine_got {l s : List UInt8} (h : lineS l = .got s) : refLine l = (s, (s.length : Int) + 2) ∧ s.all isLin = true := by
  have hg := lineS_got h
  unfold lineS at h
  unfold refLine
  cases e : crlf l with
  | some n =>
    rw [e] at h
    simp only at h ⊢
    split at h
    · rename_i hn
      cases h
      rw [if_pos hn.1]
      have := (crlf_some e).1
      have hl : (l.take n).length = n := by simp; omega
      rw [hl]
      exact ⟨rfl, hn.2⟩
    · cases h
  | none =>
    rw [e] at h
    simp only at h
    split at h <;> cases h
theorem refLine_more {l : List UInt8} (h : lineS l = .more) : refLine l = ([], 0) := by
  unfold lineS at h
  unfold refLine
  cases e : crlf l with
  | some n => rw [e] at h; simp only at h; split at h <;> cases h
  | none =>
    rw [e] at h
    simp only at h ⊢
    split at h
    · cases h
    · rename_i h1; rw [if_neg h1]
theorem refLine_bad {l : List UInt8} (h : lineS l = .bad) : refLine l = ([], -1) ∨ ∃ s, refLine l = (s, (s.length : Int) + 2) ∧ s ≠ [] ∧ s.all isLin = false := by
  unfold lineS at h
  unfold refLine
  cases e : crlf l with
  | some n =>
    rw [e] at h
    simp only at h ⊢
    split at h
    · cases h
    · rename_i hn
      split
      · rename_i h1
        right
        have := (crlf_some e).1
        have hl : (l.take n).length = n := by simp; omega
        have hf : (l.take n).all isLin = false := by cases hx : (l.take n).all isLin with | false => rfl | true => exact absurd ⟨h1, hx⟩ hn
        refine ⟨l.take n, by rw [hl], ?_, hf⟩
        intro he
        rw [he] at hf
        simp at hf
      · left; rfl
  | none =>
    rw [e] at h
    simp only at h ⊢
    split at h
    · rename_i h1; rw [if_pos h1]; left; rfl
    · cases h

/-! ### the first line -/
def refFirst (s : List UInt8) : Option Req := if s.all isLin = true then startS s else none
theorem split3 (s m t v : List UInt8) : splitB 32 s = [m, t, v] ↔ (cutB 32 s).2.2 = true ∧ (cutB 32 (cutB 32 s).2.1).2.2 = true ∧ idx 32 (cutB 32 (cutB 32 s).2.1).2.1 = none ∧
    m = (cutB 32 s).1 ∧ t = (cutB 32 (cutB 32 s).2.1).1 ∧ v = (cutB 32 (cutB 32 s).2.1).2.1 := by
  have sp : ∀ l : List UInt8, splitB 32 l ≠ [] := fun l h => by have := split_length 32 l; rw [h] at this; simp at this
  unfold cutB
  cases e : idx 32 s with
  | none => rw [split_none e]; simp
  | some i =>
    rw [split_some e]
    simp only
    cases e2 : idx 32 (s.drop (i + 1)) with
    | none => rw [split_none e2]; simp
    | some j =>
      rw [split_some e2]
      simp only
      cases e3 : idx 32 ((s.drop (i + 1)).drop (j + 1)) with
      | none =>
        rw [split_none e3]
        simp only [List.cons.injEq, and_true, true_and]
        constructor
        · rintro ⟨a, b, c⟩; exact ⟨a.symm, b.symm, c.symm⟩
        · rintro ⟨a, b, c⟩; exact ⟨a.symm, b.symm, c.symm⟩
      | some k =>
        rw [split_some e3]
        simp only [List.cons.injEq, reduceCtorEq, false_and, and_false, iff_false, not_and]
        intro _ _ _ h
        exact sp _ h
theorem ver_no32 : idx 32 ver = none := by decide
/-- The first line by two cuts. -/
theorem startS_cut (s : List UInt8) : startS s =
    if (cutB 32 s).2.2 = true ∧ (cutB 32 (cutB 32 s).2.1).2.2 = true ∧ (cutB 32 (cutB 32 s).2.1).2.1 = ver ∧ 1 ≤ (cutB 32 s).1.length ∧ (cutB 32 s).1.length ≤ 16 ∧ (cutB 32 s).1.all isUp = true then
      (tgt (cutB 32 (cutB 32 s).2.1).1).map fun x => ⟨(cutB 32 s).1, x.1, x.2, false, []⟩ else none := by
  unfold startS
  split
  · rename_i m t v h
    obtain ⟨h1, h2, h3, rfl, rfl, rfl⟩ := (split3 s _ _ _).1 h
    by_cases hc : (cutB 32 (cutB 32 s).2.1).2.1 = ver ∧ 1 ≤ (cutB 32 s).1.length ∧ (cutB 32 s).1.length ≤ 16 ∧ (cutB 32 s).1.all isUp = true
    · rw [if_pos hc, if_pos ⟨h1, h2, hc⟩]
    · rw [if_neg hc, if_neg (fun hx => hc hx.2.2)]
  · rename_i h
    rw [if_neg]
    rintro ⟨h1, h2, h3, _⟩
    exact h _ _ _ ((split3 s _ _ _).2 ⟨h1, h2, by rw [h3]; exact ver_no32, rfl, rfl, rfl⟩)
end Bph
