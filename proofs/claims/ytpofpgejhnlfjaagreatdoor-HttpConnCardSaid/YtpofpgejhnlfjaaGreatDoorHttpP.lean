/- A connection and the list of what it told. -/
import Derived.Test.YtpofpgejhnlfjaaGreatDoorHttpN
import Derived.Test.YtpofpgejhnlfjaaGreatDoorHttpO
set_option linter.unusedVariables false
set_option linter.unusedSimpArgs false
set_option maxRecDepth 100000
namespace Go.Proofs.YtpofpgejhnlfjaaGreatDoor
open Go Go.RowKit Bpm Bph

def EvR (H : RO) : List (Req × Int) → List Value → Prop
  | [], cs => cs = []
  | p :: r, cs => ∃ q bd cs', cs = [.string (bs p.1.m), .string (bs p.1.p), q, .bool p.1.close, bd] ++ cs' ∧ ParR H q p.1.q ∧ BytR H bd p.1.body ∧ EvR H r cs'
theorem EvR.ext {H H' : RO} {w : World} (x : Ext H H' w) : ∀ {l : List (Req × Int)} {cs : List Value}, EvR H l cs → EvR H' l cs
  | [], _, h => h
  | _ :: _, _, ⟨q, bd, cs', e, h1, h2, h3⟩ => ⟨q, bd, cs', e, RowR.ext h1 x, RowR.ext h2 x, EvR.ext x h3⟩
theorem EvR.snoc {H : RO} {p : Req × Int} {q bd : Value} (h1 : ParR H q p.1.q) (h2 : BytR H bd p.1.body) : ∀ {l : List (Req × Int)} {cs : List Value}, EvR H l cs → EvR H (l ++ [p]) (cs ++ [.string (bs p.1.m), .string (bs p.1.p), q, .bool p.1.close, bd])
  | [], _, h => by
    obtain rfl : _ = [] := h
    exact ⟨q, bd, [], rfl, h1, h2, rfl⟩
  | _ :: _, _, ⟨q', bd', cs', e, k1, k2, k3⟩ => ⟨q', bd', _, by rw [e, List.append_assoc], k1, k2, EvR.snoc h1 h2 k3⟩
theorem EvR.len {H : RO} : ∀ {l : List (Req × Int)} {cs : List Value}, EvR H l cs → cs.length = l.length * 5
  | [], _, h => by obtain rfl : _ = [] := h; rfl
  | _ :: _, _, ⟨q', bd', cs', e, k1, k2, k3⟩ => by have := EvR.len k3; rw [e]; simp; omega
theorem EvR.get {H : RO} : ∀ {l : List (Req × Int)} {cs : List Value}, EvR H l cs → ∀ i (hi : i < l.length), ∃ q bd, ParR H q l[i].1.q ∧ BytR H bd l[i].1.body ∧ cs[i * 5]? = some (.string (bs l[i].1.m)) ∧ cs[i * 5 + 1]? = some (.string (bs l[i].1.p)) ∧ cs[i * 5 + 2]? = some q ∧ cs[i * 5 + 3]? = some (.bool l[i].1.close) ∧ cs[i * 5 + 4]? = some bd
  | [], _, _, i, hi => by simp at hi
  | p :: r, _, ⟨q', bd', cs', e, k1, k2, k3⟩, i, hi => by
    subst e
    cases i with
    | zero => exact ⟨q', bd', k1, k2, rfl, rfl, rfl, rfl, rfl⟩
    | succ j =>
      have e1 : (j + 1) * 5 = j * 5 + 1 + 1 + 1 + 1 + 1 := by omega
      obtain ⟨q, bd, h⟩ := EvR.get k3 j (by simpa using hi)
      refine ⟨q, bd, ?_⟩
      rw [e1]
      exact h
theorem elReq : ElemT Tryz.prog 29 32 5 88 (.agg #[.string ⟨#[]⟩, .string ⟨#[]⟩, .slice none 0 0, .bool false, .slice none 0 0]) := ⟨by kernel_rfl, by kernel_rfl, rfl, by omega⟩

/-- A connection, and the list that its caller keeps. -/
structure Dn (H : RO) (W : World) (g : Nat) (bv : Value) (buf : List UInt8) (over : Bool) (vx : Value) (xs : List (Req × Int)) : Prop where
  cn : Cn H W g bv buf over
  own : ∃ cs, OwnR W vx 32 5 xs.length cs ∧ EvR H xs cs
  no : ∀ k, vx.ownBlock = some k → H k = none ∧ k ≠ g ∧ bv.ownBlock ≠ some k
def fp (g : Nat) (bv vx : Value) (k : Nat) : Prop := k = g ∨ bv.ownBlock = some k ∨ vx.ownBlock = some k
theorem Dn.lt {H : RO} {W : World} {g : Nat} {bv : Value} {buf : List UInt8} {over : Bool} {vx : Value} {xs : List (Req × Int)} (h : Dn H W g bv buf over vx xs) {k : Nat} (hk : fp g bv vx k) : k < W.heap.size := by
  rcases hk with rfl | hk | hk
  · exact h.cn.lt
  · exact h.cn.own.lt hk
  · obtain ⟨cs, ho, _⟩ := h.own
    exact ho.lt hk
theorem Dn.none {H : RO} {W : World} {g : Nat} {bv : Value} {buf : List UInt8} {over : Bool} {vx : Value} {xs : List (Req × Int)} (h : Dn H W g bv buf over vx xs) {k : Nat} (hk : fp g bv vx k) : H k = Option.none := by
  rcases hk with rfl | hk | hk
  · exact h.cn.no
  · exact h.cn.nob k hk
  · exact (h.no k hk).1
theorem Dn.fr {H : RO} {W W' : World} {g : Nat} {bv : Value} {buf : List UInt8} {over : Bool} {vx : Value} {xs : List (Req × Int)} (h : Dn H W g bv buf over vx xs) {S : List Nat} (f : Fr S W W') (hS : ∀ k, fp g bv vx k → k ∉ S) : Dn H W' g bv buf over vx xs := by
  obtain ⟨cs, ho, he⟩ := h.own
  exact ⟨h.cn.fr f (hS g (.inl rfl)) (fun k hk => hS k (.inr (.inl hk))), ⟨cs, ho.fr f (fun k hk => hS k (.inr (.inr hk))), he⟩, h.no⟩
theorem Dn.ext {H H' : RO} {W : World} {g : Nat} {bv : Value} {buf : List UInt8} {over : Bool} {vx : Value} {xs : List (Req × Int)} (h : Dn H W g bv buf over vx xs) (x : Ext H H' W) : Dn H' W g bv buf over vx xs := by
  obtain ⟨cs, ho, he⟩ := h.own
  exact ⟨h.cn.ext x (Nat.le_refl _), ⟨cs, ho, EvR.ext x he⟩, fun k hk => ⟨x.none (ho.lt hk) (h.no k hk).1, (h.no k hk).2⟩⟩
def Sep (g1 : Nat) (b1 x1 : Value) (g2 : Nat) (b2 x2 : Value) : Prop := ∀ k, fp g1 b1 x1 k → fp g2 b2 x2 k → False
theorem Sep.symm {g1 : Nat} {b1 x1 : Value} {g2 : Nat} {b2 x2 : Value} (h : Sep g1 b1 x1 g2 b2 x2) : Sep g2 b2 x2 g1 b1 x1 := fun k h1 h2 => h k h2 h1
/-- Next, seen with the list: what is told, and the rest as it was. -/
theorem Dn.next {H H' : RO} {W W' : World} {g : Nat} {bv bv' : Value} {buf buf' : List UInt8} {over over' : Bool} {vx : Value} {xs : List (Req × Int)} (h : Dn H W g bv buf over vx xs) (f : Fr [g] W W') (x : Ext H H' W) (hc : Cn H' W' g bv' buf' over') (hk : bv'.ownBlock = bv.ownBlock) : Dn H' W' g bv' buf' over' vx xs := by
  obtain ⟨cs, ho, he⟩ := h.own
  exact ⟨hc, ⟨cs, ho.fr f (fun k hk => by simpa using (h.no k hk).2.1), EvR.ext x he⟩, fun k hk' => ⟨x.none (ho.lt hk') (h.no k hk').1, (h.no k hk').2.1, by rw [hk]; exact (h.no k hk').2.2⟩⟩
/-- One more in the list. -/
theorem Dn.push {H : RO} {W W' : World} {g : Nat} {bv : Value} {buf : List UInt8} {over : Bool} {vx vx' : Value} {xs : List (Req × Int)} {p : Req × Int} {q bd : Value} {cs : List Value} (hG : GoodH H W) (h : Dn H W g bv buf over vx xs) (he : EvR H xs cs) (h1 : ParR H q p.1.q) (h2 : BytR H bd p.1.body)
    (f : Fr vx.ownBlock.toList W W') (ho : OwnR W' vx' 32 5 (xs.length + 1) (cs ++ [.string (bs p.1.m), .string (bs p.1.p), q, .bool p.1.close, bd])) (hk : vx'.ownBlock = vx.ownBlock ∨ ∃ k, vx'.ownBlock = some k ∧ W.heap.size ≤ k) : Dn H W' g bv buf over vx' (xs ++ [p]) := by
  refine ⟨h.cn.fr f (fun hx => ?_) (fun k hk' hx => ?_), ⟨_, by simpa using ho, EvR.snoc h1 h2 he⟩, fun k hk' => ?_⟩
  · have := (h.no g (by simpa using hx)).2.1; exact this rfl
  · exact (h.no k (by simpa using hx)).2.2 hk'
  · rcases hk with e | ⟨k', e, hge⟩
    · exact h.no k (by rw [← e]; exact hk')
    · rw [e] at hk'
      cases hk'
      refine ⟨hG.none_ge hge, by have := h.cn.lt; omega, fun hb => ?_⟩
      have := h.cn.own.lt hb
      omega
end Go.Proofs.YtpofpgejhnlfjaaGreatDoor
