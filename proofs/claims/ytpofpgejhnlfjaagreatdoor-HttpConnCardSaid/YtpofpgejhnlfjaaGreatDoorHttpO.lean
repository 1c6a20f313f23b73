/- Plain law: bytes in pieces tell the same as at once. -/
import Derived.Test.YtpofpgejhnlfjaaGreatDoorHttpSpec
set_option linter.unusedVariables false
set_option linter.unusedSimpArgs false
namespace Bph

theorem bodyS_done {buf : List UInt8} {at_ : Nat} {len : Int} {r q : Req} {n : Nat} (h : bodyS buf at_ len r = .done q n) : at_ ≤ n ∧ n ≤ buf.length := by
  unfold bodyS at h
  split at h
  · cases h
  · split at h
    · cases h
    · cases h; omega
theorem hdrs_done (buf : List UInt8) (at_ k : Nat) (len : Int) (r q : Req) (n : Nat) (h : hdrs buf at_ k len r = .done q n) : at_ ≤ n ∧ n ≤ buf.length := by
  induction hk : buf.length - at_ using Nat.strongRecOn generalizing at_ k len r with
  | _ m ih =>
    cases e : lineS (buf.drop at_) with
    | more => rw [hdrs_more e] at h; cases h
    | bad => rw [hdrs_bad e] at h; cases h
    | got s =>
      have hg := (lineS_got e).1
      simp at hg
      by_cases hs : s = []
      · subst hs
        rw [hdrs_end e] at h
        have := bodyS_done h
        omega
      · cases e2 : hdrS s k len r.close with
        | none => rw [hdrs_no e hs e2] at h; cases h
        | some lc =>
          obtain ⟨len', close'⟩ := lc
          rw [hdrs_yes e hs e2] at h
          have := ih _ (by omega) _ _ _ _ h rfl
          omega
theorem parse_done {buf : List UInt8} {q : Req} {n : Nat} (h : parse buf = .done q n) : 1 ≤ n ∧ n ≤ buf.length := by
  unfold parse at h
  cases e : lineS buf with
  | more => simp [e] at h
  | bad => simp [e] at h
  | got s =>
    simp only [e] at h
    cases e2 : startS s with
    | none => simp [e2] at h
    | some r =>
      simp only [e2] at h
      have := hdrs_done _ _ _ _ _ _ _ h
      omega

/-- What a connection tells: the events, whether it is over, what waits. -/
structure Dr where
  evs : List (Req × Int)
  over : Bool
  rest : List UInt8
def drain (buf : List UInt8) : Dr :=
  match h : parse buf with
  | .more => ⟨[], false, buf⟩
  | .fault st => ⟨[(Req.none, st)], true, buf⟩
  | .done r n => if r.close then ⟨[(r, 0)], true, buf.drop n⟩ else ⟨(r, 0) :: (drain (buf.drop n)).evs, (drain (buf.drop n)).over, (drain (buf.drop n)).rest⟩
termination_by buf.length
decreasing_by all_goals (have := parse_done h; simp; omega)
theorem drain_more {buf : List UInt8} (h : parse buf = .more) : drain buf = ⟨[], false, buf⟩ := by
  rw [drain]
  split <;> simp_all
theorem drain_fault {buf : List UInt8} {st : Int} (h : parse buf = .fault st) : drain buf = ⟨[(Req.none, st)], true, buf⟩ := by
  rw [drain]
  split <;> simp_all
theorem drain_close {buf : List UInt8} {r : Req} {n : Nat} (h : parse buf = .done r n) (hc : r.close = true) : drain buf = ⟨[(r, 0)], true, buf.drop n⟩ := by
  rw [drain]
  split
  · simp_all
  · simp_all
  · rename_i r' n' h'
    rw [h] at h'
    cases h'
    rw [hc]
    rfl
theorem drain_open {buf : List UInt8} {r : Req} {n : Nat} (h : parse buf = .done r n) (hc : r.close = false) : drain buf = ⟨(r, 0) :: (drain (buf.drop n)).evs, (drain (buf.drop n)).over, (drain (buf.drop n)).rest⟩ := by
  rw [drain]
  split
  · simp_all
  · simp_all
  · rename_i r' n' h'
    rw [h] at h'
    cases h'
    rw [hc]
    rfl
theorem drain_rest {buf : List UInt8} (h : (drain buf).over = false) : parse (drain buf).rest = .more := by
  induction hk : buf.length using Nat.strongRecOn generalizing buf with
  | _ m ih =>
    cases e : parse buf with
    | more => rw [drain_more e]; exact e
    | fault st => rw [drain_fault e] at h; cases h
    | done r n =>
      have hn := parse_done e
      cases hc : r.close with
      | true => rw [drain_close e hc] at h; cases h
      | false =>
        rw [drain_open e hc] at h ⊢
        exact ih _ (by simp; omega) h rfl
/-- More bytes behind: the same, and on. -/
theorem drain_append (buf x : List UInt8) : (drain (buf ++ x)).evs = (if (drain buf).over then (drain buf).evs else (drain buf).evs ++ (drain ((drain buf).rest ++ x)).evs) ∧
    (drain (buf ++ x)).over = (if (drain buf).over then true else (drain ((drain buf).rest ++ x)).over) ∧
    ((drain buf).over = false → (drain (buf ++ x)).rest = (drain ((drain buf).rest ++ x)).rest) := by
  induction hk : buf.length using Nat.strongRecOn generalizing buf with
  | _ m ih =>
    cases e : parse buf with
    | more => rw [drain_more e]; simp
    | fault st =>
      have e' := parse_append (buf := buf) (by rw [e]; simp) x
      rw [e] at e'
      rw [drain_fault e, drain_fault e']
      simp
    | done r n =>
      have e' := parse_append (buf := buf) (by rw [e]; simp) x
      rw [e] at e'
      have hn := parse_done e
      cases hc : r.close with
      | true => rw [drain_close e hc, drain_close e' hc]; simp
      | false =>
        have h := ih _ (by simp; omega) (buf.drop n) rfl
        rw [drain_open e hc, drain_open e' hc, List.drop_append_of_le_length hn.2]
        simp only
        rw [h.1, h.2.1]
        refine ⟨?_, rfl, h.2.2⟩
        cases (drain (buf.drop n)).over <;> simp
/-- xs was told of b; buf waits. -/
def Tell (b : List UInt8) (xs : List (Req × Int)) (buf : List UInt8) (over : Bool) : Prop :=
  (drain b).evs = (if over then xs else xs ++ (drain buf).evs) ∧ (drain b).over = (if over then true else (drain buf).over) ∧ (over = false → (drain b).rest = (drain buf).rest)
theorem Tell.start (b : List UInt8) : Tell b [] b false := ⟨by simp, by simp, fun _ => rfl⟩
theorem Tell.fault {b : List UInt8} {xs : List (Req × Int)} {buf : List UInt8} {st : Int} (h : Tell b xs buf false) (e : parse buf = .fault st) : Tell b (xs ++ [(Req.none, st)]) buf true := by
  obtain ⟨h1, h2, _⟩ := h
  rw [drain_fault e] at h1 h2
  exact ⟨by simpa using h1, by simpa using h2, fun h => by cases h⟩
theorem Tell.done {b : List UInt8} {xs : List (Req × Int)} {buf : List UInt8} {r : Req} {n : Nat} (h : Tell b xs buf false) (e : parse buf = .done r n) : Tell b (xs ++ [(r, 0)]) (buf.drop n) r.close := by
  obtain ⟨h1, h2, h3⟩ := h
  cases hc : r.close with
  | true =>
    rw [drain_close e hc] at h1 h2
    exact ⟨by simpa using h1, by simpa using h2, fun h => by cases h⟩
  | false =>
    rw [drain_open e hc] at h1 h2 h3
    exact ⟨by simpa using h1, by simpa using h2, fun _ => by simpa using h3⟩
theorem Tell.more {b : List UInt8} {xs : List (Req × Int)} {buf : List UInt8} (h : Tell b xs buf false) (e : parse buf = .more) : (drain b).evs = xs ∧ (drain b).over = false ∧ (drain b).rest = buf := by
  obtain ⟨h1, h2, h3⟩ := h
  rw [drain_more e] at h1 h2 h3
  exact ⟨by simpa using h1, by simpa using h2, by simpa using h3⟩
theorem Tell.over {b : List UInt8} {xs : List (Req × Int)} {buf : List UInt8} (h : Tell b xs buf true) : (drain b).evs = xs ∧ (drain b).over = true := ⟨by simpa using h.1, by simpa using h.2.1⟩
theorem Tell.feed {b x : List UInt8} (h : (drain b).over = false) : Tell (b ++ x) (drain b).evs ((drain b).rest ++ x) false := by
  obtain ⟨h1, h2, h3⟩ := drain_append b x
  rw [h] at h1 h2
  exact ⟨by simpa using h1, by simpa using h2, fun _ => h3 h⟩
theorem tell_all {b x : List UInt8} (h : (drain b).over = true) : (drain (b ++ x)).evs = (drain b).evs ∧ (drain (b ++ x)).over = true := by
  obtain ⟨h1, h2, _⟩ := drain_append b x
  rw [h] at h1 h2
  exact ⟨by simpa using h1, by simpa using h2⟩
theorem drain_len (buf : List UInt8) : (drain buf).evs.length ≤ buf.length + 1 := by
  induction hk : buf.length using Nat.strongRecOn generalizing buf with
  | _ m ih =>
    cases e : parse buf with
    | more => rw [drain_more e]; simp
    | fault st => rw [drain_fault e]; simp
    | done r n =>
      have hn := parse_done e
      cases hc : r.close with
      | true => rw [drain_close e hc]; simp
      | false =>
        have h := ih _ (by simp; omega) (buf.drop n) rfl
        rw [drain_open e hc]
        simp at h ⊢
        omega
/-- The last event's status; 0: there is none. -/
def lastSt (l : List (Req × Int)) : Int := match l.getLast? with | some p => p.2 | none => 0
theorem lastSt_snoc (l : List (Req × Int)) (p : Req × Int) : lastSt (l ++ [p]) = p.2 := by simp [lastSt]
end Bph
