/- Maps that a call makes: what is stored, what is looked up, values kept as they are. -/
import Derived.Maps.Own
import Derived.Maps.Views
import Derived.Test.YtpofpgejhnlfjaaGreatDoorMem
set_option linter.unusedVariables false
set_option linter.unusedSimpArgs false
namespace Bpm
open Go Go.RowKit

/-- Values of a map, whatever they are. -/
def HV (v : Value) : Option (DataW Value × List MemPlace) := some (.held v, [])
def OwnMap (P : Program) (k : TypeId) (w : World) (b n : Nat) (D : DataW Value) : Prop := w.ownsMap P k HV b n D
theorem OwnMap.fr {P : Program} {k : TypeId} {w w' : World} {b n : Nat} {D : DataW Value} (h : OwnMap P k w b n D) {S : List Nat} (f : Fr S w w') (hb : b ∉ S) : OwnMap P k w' b n D := by
  obtain ⟨es, clock, h1, h2⟩ := h
  exact ⟨es, clock, f.blk h1 hb, h2⟩
theorem wp_insert {P : Program} (w : World) {ops : Array Oper} {rest : List Oper} {o : Oper} {a : Act} {Q : Exit → Act → World → Prop}
    (hg : o.guard = none) (m x v : Operand) (t : TypeId) (hop : o.op = Op.insert t m x v)
    (k e : TypeId) (K : Maps.Keyed P k) (ht : P.underlying t = some (.map k e)) (b n : Nat) (D : DataW Value)
    (hm : a.eval m = .map (some b)) (hown : OwnMap P k w b n D) (hn : n < maxLen) (key val : Value) (kl : Lit) (hx : a.eval x = key) (hv : a.eval v = val) (hkey : keyOf P k key = some kl)
    (hK : ∀ w', OwnMap P k w' b (n + 1) (D.put kl (.held val)) → Fr [b] w w' → wpList P ops Q rest (a.put o.dst undef) w') :
    wpList P ops Q (o :: rest) a w := by
  refine wpList_plain hg fun K' hK' => ?_
  obtain ⟨w', hrun, r1, r2⟩ := hown.update K ht hn hkey (show HV val = some (.held val, []) from rfl)
  unfold Oper.wp
  simp [execOp, hop, hm, hx, hv, hrun, Result.andThen]
  exact hK' _ _ (hK w' r1 ((Fr.of_grown r2).mono (by simp)))
theorem OwnMap.look {P : Program} {k t e : TypeId} {w : World} {b n : Nat} {D : DataW Value} (h : OwnMap P k w b n D) (K : Maps.Keyed P k) (ht : P.underlying t = some (.map k e)) {z : Value} (hz : (zeroValue e).run P w = .ok z w)
    {key : Value} {kl : Lit} (hkey : keyOf P k key = some kl) (v : Value) (hv : D.atKey kl (.held z) = .held v) : (Instr.lookup t (.map (some b)) key false).run P w = .ok v w := by
  obtain ⟨v', ps, hrun, hh⟩ := World.ownsMap.lookup h K ht hz (show HV z = some (.held z, []) from rfl) hkey
  simp only [HV, Option.some.injEq, Prod.mk.injEq] at hh
  rw [hv] at hh
  obtain ⟨h1, _⟩ := hh
  cases h1
  exact hrun
theorem OwnMap.look_ok {P : Program} {k t e : TypeId} {w : World} {b n : Nat} {D : DataW Value} (h : OwnMap P k w b n D) (K : Maps.Keyed P k) (ht : P.underlying t = some (.map k e)) {z : Value} (hz : (zeroValue e).run P w = .ok z w)
    {key : Value} {kl : Lit} (hkey : keyOf P k key = some kl) :
    (∀ v, D.atKey kl .nil = .held v → (Instr.lookup t (.map (some b)) key true).run P w = .ok (.tuple #[v, .bool true]) w) ∧
    (D.atKey kl .nil = .nil → (Instr.lookup t (.map (some b)) key true).run P w = .ok (.tuple #[z, .bool false]) w) := by
  obtain ⟨es, clock, hb, F, _, rfl⟩ := h
  rcases Maps.fit_look true K ht hz hb F hkey with ⟨hrun, _, hat⟩ | ⟨e0, y, _, _, hrun, hRv, hat, _⟩
  · refine ⟨fun v hv => ?_, fun _ => hrun⟩
    rw [hat] at hv
    cases hv
  · simp only [HV, Option.some.injEq] at hRv
    subst hRv
    refine ⟨fun v hv => ?_, fun hn => ?_⟩
    · rw [hat] at hv
      cases hv
      exact hrun
    · rw [hat] at hn
      cases hn
theorem atKey_empty (k : Lit) (z : DataW Value) : (DataW.map [] : DataW Value).atKey k z = z := rfl
theorem at_put (D : DataW Value) (hD : Maps.IsMap D) (l l' : List UInt8) (v z : DataW Value) : (D.put (.string l) v).atKey (.string l') z = if l' = l then v else D.atKey (.string l') z := by
  split
  · rename_i h; subst h; exact Maps.atKey_put_same (k := .string l') hD (by simp [WideAt.IsKeyLit]) v z
  · rename_i h; exact Maps.atKey_put_other (by simpa using h) v z
theorem at_put_int (D : DataW Value) (hD : Maps.IsMap D) (q : IntKind) (l l' : Int) (v z : DataW Value) : (D.put (.int q l) v).atKey (.int q l') z = if l' = l then v else D.atKey (.int q l') z := by
  split
  · rename_i h; subst h; exact Maps.atKey_put_same (k := .int q l') hD (by simp [WideAt.IsKeyLit]) v z
  · rename_i h; exact Maps.atKey_put_other (by simpa using h) v z
theorem isMap_0 : Maps.IsMap (.map [] : DataW Value) := Maps.isMap_empty
end Bpm
