/- The plain law of layer 27 (http): what a target, a line, a request is, in lists of bytes. No program in sight. -/
import Derived.Test.YtpofpgejhnlfjaaGreatDoorText
set_option linter.unusedVariables false
set_option linter.unusedSimpArgs false
namespace Bph

def isDig (c : UInt8) : Bool := decide (48 ≤ c.toNat) && decide (c.toNat ≤ 57)
def isLow (c : UInt8) : Bool := decide (97 ≤ c.toNat) && decide (c.toNat ≤ 122)
def isUp (c : UInt8) : Bool := decide (65 ≤ c.toNat) && decide (c.toNat ≤ 90)
def isLet (c : UInt8) : Bool := isLow c || isUp c
def isPri (c : UInt8) : Bool := decide (32 ≤ c.toNat) && decide (c.toNat ≤ 126)
def isVis (c : UInt8) : Bool := decide (33 ≤ c.toNat) && decide (c.toNat ≤ 126)
def isLin (c : UInt8) : Bool := isPri c || decide (c.toNat = 9)
def isNam (c : UInt8) : Bool := isLet c || isDig c || decide (c.toNat = 45)
def hexI (c : UInt8) : Int :=
  if isDig c then (c.toNat : Int) - 48
  else if 97 ≤ c.toNat ∧ c.toNat ≤ 102 then (c.toNat : Int) - 87
  else if 65 ≤ c.toNat ∧ c.toNat ≤ 70 then (c.toNat : Int) - 55
  else -1
theorem hexI_range (c : UInt8) : -1 ≤ hexI c ∧ hexI c ≤ 15 := by
  unfold hexI isDig
  split
  · rename_i h; simp at h; omega
  · split
    · omega
    · split <;> omega

/-- A byte out of two hexadecimal digits. -/
def hexB (a b : UInt8) : UInt8 := UInt8.ofNat ((16 * hexI a + hexI b).toNat)
/-- Escapes taken away; none: one is none, or something comes that may not. -/
def unesc (plus : Bool) : List UInt8 → Option (List UInt8)
  | [] => some []
  | c :: r =>
    if c = 37 then
      match r with
      | a :: b :: r' => if hexI a < 0 ∨ hexI b < 0 then none else if isPri (hexB a b) then (unesc plus r').map (hexB a b :: ·) else none
      | _ => none
    else
      let d := if c = 43 ∧ plus = true then 32 else c
      if isPri d then (unesc plus r).map (d :: ·) else none
/-- The two results, as Go hands them back. -/
def unescS (plus : Bool) (l : List UInt8) : List UInt8 := (unesc plus l).getD []
def unescB (plus : Bool) (l : List UInt8) : Bool := (unesc plus l).isSome
theorem unesc_pct_short (plus : Bool) (r : List UInt8) (h : r.length < 2) : unesc plus (37 :: r) = none := by
  match r, h with
  | [], _ => simp [unesc]
  | [a], _ => simp [unesc]
  | a :: b :: r', h => simp at h; omega
theorem unesc_pct (plus : Bool) (a b : UInt8) (r : List UInt8) : unesc plus (37 :: a :: b :: r) = if hexI a < 0 ∨ hexI b < 0 then none else if isPri (hexB a b) then (unesc plus r).map (hexB a b :: ·) else none := by
  simp [unesc]
theorem unesc_plain (plus : Bool) (c d : UInt8) (r : List UInt8) (hc : c ≠ 37) (hd : d = if c = 43 ∧ plus = true then 32 else c) : unesc plus (c :: r) = if isPri d then (unesc plus r).map (d :: ·) else none := by
  subst hd
  rw [unesc.eq_def]
  simp [hc]
theorem hexB_toNat (a b : UInt8) (ha : 0 ≤ hexI a) (hb : 0 ≤ hexI b) : ((hexB a b).toNat : Int) = 16 * hexI a + hexI b := by
  have := hexI_range a
  have := hexI_range b
  simp [hexB]
  omega

/-- A part of a target's parameters: is it well written; its name and value. -/
def partOk (p : List UInt8) : Bool := unescB true (cutB 61 p).1 && unescB true (cutB 61 p).2.1
def partP (p : List UInt8) : List UInt8 × List UInt8 := (unescS true (cutB 61 p).1, unescS true (cutB 61 p).2.1)
def someP (p : List UInt8 × List UInt8) : Bool := !(p.1.isEmpty && p.2.isEmpty)
def partsOk (l : List (List UInt8)) : Bool := l.all partOk
def partsP (l : List (List UInt8)) : List (List UInt8 × List UInt8) := (l.map partP).filter someP
/-- May a text be a target, at first sight? -/
def tgtPre (l : List UInt8) : Bool := decide (1 ≤ l.length) && decide (l.length ≤ 2048) && (l.head? == some 47) && l.all isVis
def tgt (l : List UInt8) : Option (List UInt8 × List (List UInt8 × List UInt8)) :=
  if tgtPre l then
    if unescB false (cutB 63 l).1 && partsOk (splitB 38 (cutB 63 l).2.1) then some (unescS false (cutB 63 l).1, partsP (splitB 38 (cutB 63 l).2.1)) else none
  else none

/-! ### lines -/
/-- The first 13 10. -/
def crlf : List UInt8 → Option Nat
  | [] => none
  | x :: r => if x = 13 ∧ r.head? = some 10 then some 0 else (crlf r).map (· + 1)
theorem crlf_some {l : List UInt8} {n : Nat} (h : crlf l = some n) : n + 2 ≤ l.length ∧ l = l.take n ++ 13 :: 10 :: l.drop (n + 2) := by
  induction l generalizing n with
  | nil => cases h
  | cons x r ih =>
    unfold crlf at h
    split at h
    · rename_i hx
      cases h
      cases r with
      | nil => simp at hx
      | cons y r' =>
        obtain ⟨rfl, hy⟩ := hx
        simp at hy
        subst hy
        simp
    · obtain ⟨j, hj, rfl⟩ := Option.map_eq_some_iff.1 h
      obtain ⟨h1, h2⟩ := ih hj
      refine ⟨by simp; omega, ?_⟩
      simp only [List.take_succ_cons, List.cons_append, show j + 1 + 2 = (j + 2) + 1 from rfl, List.drop_succ_cons]
      rw [← h2]
theorem crlf_append {l : List UInt8} {n : Nat} (h : crlf l = some n) (x : List UInt8) : crlf (l ++ x) = some n := by
  induction l generalizing n with
  | nil => cases h
  | cons c r ih =>
    unfold crlf at h
    rw [List.cons_append, crlf]
    split at h
    · rename_i hx
      cases h
      have : (r ++ x).head? = some 10 := by cases r with | nil => simp at hx | cons y r' => simpa using hx.2
      rw [if_pos ⟨hx.1, this⟩]
    · rename_i hx
      obtain ⟨j, hj, rfl⟩ := Option.map_eq_some_iff.1 h
      have : ¬ (c = 13 ∧ (r ++ x).head? = some 10) := by
        intro hh
        cases r with
        | nil => cases hj
        | cons y r' => exact hx ⟨hh.1, by simpa using hh.2⟩
      rw [if_neg this, ih hj]
      rfl
theorem crlf_late {l x : List UInt8} {n : Nat} (h : crlf l = none) (hx : crlf (l ++ x) = some n) : l.length ≤ n + 1 := by
  induction l generalizing n with
  | nil => simp
  | cons c r ih =>
    unfold crlf at h
    rw [List.cons_append, crlf] at hx
    split at h
    · cases h
    · rename_i hc
      split at hx
      · rename_i hh
        cases hx
        cases r with
        | nil => simp
        | cons y r' => exact absurd ⟨hh.1, by simpa using hh.2⟩ hc
      · obtain ⟨j, hj, rfl⟩ := Option.map_eq_some_iff.1 hx
        have := ih (by simpa using h) hj
        simp; omega
def crlfI (l : List UInt8) : Int := match crlf l with | some n => (n : Int) | none => -1
theorem crlfI_some {l : List UInt8} {n : Nat} (h : crlf l = some n) : crlfI l = n := by unfold crlfI; rw [h]
theorem crlfI_none {l : List UInt8} (h : crlf l = none) : crlfI l = -1 := by unfold crlfI; rw [h]
theorem index2 (l : List UInt8) : Go.Lib.index l [13, 10] = crlfI l := by
  induction l with
  | nil => simp [Go.Lib.index, crlfI, crlf]
  | cons x r ih =>
    have hp : [13, 10].isPrefixOf (x :: r) = decide (x = 13 ∧ r.head? = some 10) := by
      rw [Bool.eq_iff_iff]
      cases r with
      | nil => simp [List.isPrefixOf]
      | cons y r' => simp [List.isPrefixOf]; constructor <;> (rintro ⟨a, b⟩; exact ⟨a.symm, b.symm⟩)
    unfold Go.Lib.index
    rw [hp, ih]
    unfold crlfI
    rw [crlf]
    by_cases hx : x = 13 ∧ r.head? = some 10
    · rw [if_pos (by simpa using hx), if_pos hx]; rfl
    · rw [if_neg (by simpa using hx), if_neg hx]
      cases e : crlf r with
      | none => simp
      | some i =>
        have h1 : ((i : Int) == -1) = false := by rw [beq_eq_false_iff_ne]; omega
        simp [h1]

inductive Ln where
  | more
  | bad
  | got (s : List UInt8)
/-- The line that stands next. -/
def lineS (l : List UInt8) : Ln :=
  match crlf l with
  | some n => if n ≤ 4096 ∧ (l.take n).all isLin = true then .got (l.take n) else .bad
  | none => if 4098 ≤ l.length then .bad else .more
theorem lineS_append {l : List UInt8} (h : lineS l ≠ .more) (x : List UInt8) : lineS (l ++ x) = lineS l := by
  unfold lineS at h ⊢
  cases e : crlf l with
  | some n =>
    rw [crlf_append e x]
    have := (crlf_some e).1
    simp only [List.take_append_of_le_length (show n ≤ l.length by omega)]
  | none =>
    rw [e] at h
    simp only at h ⊢
    split at h
    · rename_i hl
      rw [if_pos hl]
      cases e2 : crlf (l ++ x) with
      | some n =>
        have := crlf_late e e2
        simp only
        rw [if_neg (by omega)]
      | none =>
        simp only
        rw [if_pos (by simp; omega)]
    · exact absurd rfl h
theorem lineS_got {l s : List UInt8} (h : lineS l = .got s) : s.length + 2 ≤ l.length ∧ s = l.take s.length ∧ s.all isLin = true ∧ s.length ≤ 4096 := by
  unfold lineS at h
  cases e : crlf l with
  | some n =>
    rw [e] at h
    simp only at h
    split at h
    · rename_i hn
      cases h
      have := (crlf_some e).1
      have hl : (l.take n).length = n := by simp; omega
      rw [hl]
      exact ⟨this, rfl, hn.2, hn.1⟩
    · cases h
  | none =>
    rw [e] at h
    simp only at h
    split at h <;> cases h

/-! ### requests -/
structure Req where
  m : List UInt8
  p : List UInt8
  q : List (List UInt8 × List UInt8)
  close : Bool
  body : List UInt8
def Req.none : Req := ⟨[], [], [], false, []⟩
def ver : List UInt8 := [72, 84, 84, 80, 47, 49, 46, 49]
/-- A first line's method, path and parameters. -/
def startS (s : List UInt8) : Option Req :=
  match splitB 32 s with
  | [m, t, v] => if v = ver ∧ 1 ≤ m.length ∧ m.length ≤ 16 ∧ m.all isUp = true then (tgt t).map fun x => ⟨m, x.1, x.2, false, []⟩ else Option.none
  | _ => Option.none
def lowB (c : UInt8) : UInt8 := if isUp c then c + 32 else c
def low (l : List UInt8) : List UInt8 := l.map lowB
def isBl (c : UInt8) : Bool := decide (c.toNat = 32) || decide (c.toNat = 9)
def trimL (l : List UInt8) : List UInt8 := l.dropWhile isBl
def trim (l : List UInt8) : List UInt8 := trimL ((l.reverse.dropWhile isBl).reverse)
def atoiD : Nat → List UInt8 → Nat
  | n, [] => n
  | n, c :: r => atoiD (10 * n + (c.toNat - 48)) r
def hCL : List UInt8 := [99, 111, 110, 116, 101, 110, 116, 45, 108, 101, 110, 103, 116, 104]
def hTE : List UInt8 := [116, 114, 97, 110, 115, 102, 101, 114, 45, 101, 110, 99, 111, 100, 105, 110, 103]
def hCO : List UInt8 := [99, 111, 110, 110, 101, 99, 116, 105, 111, 110]
def hClose : List UInt8 := [99, 108, 111, 115, 101]
/-- A header that counts: what it makes of the length (-1: none told) and of close. -/
def countS (nm v : List UInt8) (len : Int) (close : Bool) : Option (Int × Bool) :=
  if nm = hCL then if len < 0 ∧ 1 ≤ v.length ∧ v.length ≤ 9 ∧ v.all isDig = true then some (atoiD 0 v, close) else Option.none
  else if nm = hTE then Option.none
  else if nm = hCO then some (len, close || decide (low v = hClose))
  else some (len, close)
/-- A header line; n: how many there were. -/
def hdrS (s : List UInt8) (n : Nat) (len : Int) (close : Bool) : Option (Int × Bool) :=
  if (cutB 58 s).2.2 = true ∧ n + 1 ≤ 32 ∧ 1 ≤ (cutB 58 s).1.length ∧ (cutB 58 s).1.length ≤ 64 ∧ (cutB 58 s).1.all isNam = true then
    countS (low (cutB 58 s).1) (trim (cutB 58 s).2.1) len close
  else Option.none
inductive Out where
  | more
  | fault (status : Int)
  | done (r : Req) (n : Nat)
def bodyS (buf : List UInt8) (at_ : Nat) (len : Int) (r : Req) : Out :=
  if 262144 < len.toNat then .fault 413
  else if buf.length < at_ + len.toNat then .more
  else .done { r with body := (buf.drop at_).take len.toNat } (at_ + len.toNat)
def hdrs (buf : List UInt8) (at_ n : Nat) (len : Int) (r : Req) : Out :=
  match h : lineS (buf.drop at_) with
  | .more => .more
  | .bad => .fault 400
  | .got s =>
    if s = [] then bodyS buf (at_ + 2) len r
    else match hdrS s n len r.close with
      | Option.none => .fault 400
      | some (len', close') => hdrs buf (at_ + s.length + 2) (n + 1) len' { r with close := close' }
termination_by buf.length - at_
decreasing_by
  have := (lineS_got h).1
  simp at this
  omega
/-- What stands at the begin of a connection's bytes. -/
def parse (buf : List UInt8) : Out :=
  match lineS buf with
  | .more => .more
  | .bad => .fault 400
  | .got s => match startS s with
    | Option.none => .fault 400
    | some r => hdrs buf (s.length + 2) 0 (-1) r

theorem bodyS_append {buf : List UInt8} {at_ : Nat} {len : Int} {r : Req} (ha : at_ ≤ buf.length) (h : bodyS buf at_ len r ≠ .more) (x : List UInt8) : bodyS (buf ++ x) at_ len r = bodyS buf at_ len r := by
  unfold bodyS at h ⊢
  split
  · rfl
  · rename_i h1
    rw [if_neg h1] at h
    split at h
    · exact absurd rfl h
    · rename_i h2
      rw [if_neg h2, if_neg (by simp; omega)]
      rw [List.drop_append_of_le_length ha, List.take_append_of_le_length (by simp; omega)]
theorem hdrs_more {buf : List UInt8} {at_ n : Nat} {len : Int} {r : Req} (e : lineS (buf.drop at_) = .more) : hdrs buf at_ n len r = .more := by
  rw [hdrs]
  split <;> simp_all
theorem hdrs_bad {buf : List UInt8} {at_ n : Nat} {len : Int} {r : Req} (e : lineS (buf.drop at_) = .bad) : hdrs buf at_ n len r = .fault 400 := by
  rw [hdrs]
  split <;> simp_all
theorem hdrs_end {buf : List UInt8} {at_ n : Nat} {len : Int} {r : Req} (e : lineS (buf.drop at_) = .got []) : hdrs buf at_ n len r = bodyS buf (at_ + 2) len r := by
  rw [hdrs]
  split <;> simp_all
theorem hdrs_no {buf s : List UInt8} {at_ n : Nat} {len : Int} {r : Req} (e : lineS (buf.drop at_) = .got s) (hs : s ≠ []) (h : hdrS s n len r.close = none) : hdrs buf at_ n len r = .fault 400 := by
  rw [hdrs]
  split
  · simp_all
  · simp_all
  · rename_i s' h'
    rw [e] at h'
    cases h'
    rw [if_neg hs, h]
theorem hdrs_yes {buf s : List UInt8} {at_ n : Nat} {len len' : Int} {r : Req} {close' : Bool} (e : lineS (buf.drop at_) = .got s) (hs : s ≠ []) (h : hdrS s n len r.close = some (len', close')) : hdrs buf at_ n len r = hdrs buf (at_ + s.length + 2) (n + 1) len' { r with close := close' } := by
  rw [hdrs]
  split
  · simp_all
  · simp_all
  · rename_i s' h'
    rw [e] at h'
    cases h'
    rw [if_neg hs, h]
theorem hdrs_append (x : List UInt8) (buf : List UInt8) (at_ n : Nat) (len : Int) (r : Req) (ha : at_ ≤ buf.length) (h : hdrs buf at_ n len r ≠ .more) : hdrs (buf ++ x) at_ n len r = hdrs buf at_ n len r := by
  induction hk : buf.length - at_ using Nat.strongRecOn generalizing at_ n len r with
  | _ k ih =>
    have hd : (buf ++ x).drop at_ = buf.drop at_ ++ x := List.drop_append_of_le_length ha
    cases e : lineS (buf.drop at_) with
    | more => exact absurd (hdrs_more e) h
    | bad =>
      have e' : lineS ((buf ++ x).drop at_) = .bad := by rw [hd, lineS_append (by rw [e]; simp) x, e]
      rw [hdrs_bad e, hdrs_bad e']
    | got s =>
      have e' : lineS ((buf ++ x).drop at_) = .got s := by rw [hd, lineS_append (by rw [e]; simp) x, e]
      have hg := (lineS_got e).1
      simp at hg
      by_cases hs : s = []
      · subst hs
        rw [hdrs_end e] at h ⊢
        rw [hdrs_end e']
        exact bodyS_append (by simp at hg; omega) h x
      · cases e2 : hdrS s n len r.close with
        | none => rw [hdrs_no e hs e2, hdrs_no e' hs e2]
        | some lc =>
          obtain ⟨len', close'⟩ := lc
          rw [hdrs_yes e hs e2] at h ⊢
          rw [hdrs_yes e' hs e2]
          exact ih _ (by omega) _ _ _ _ (by omega) h rfl
theorem parse_append {buf : List UInt8} (h : parse buf ≠ .more) (x : List UInt8) : parse (buf ++ x) = parse buf := by
  unfold parse at h ⊢
  cases e : lineS buf with
  | more => simp [e] at h
  | bad => rw [lineS_append (by rw [e]; simp) x, e]
  | got s =>
    rw [lineS_append (by rw [e]; simp) x, e]
    have hg := (lineS_got e).1
    simp only [e] at h ⊢
    cases e2 : startS s with
    | none => rfl
    | some r =>
      simp only [e2] at h ⊢
      exact hdrs_append x buf _ _ _ _ (by omega) h

end Bph
