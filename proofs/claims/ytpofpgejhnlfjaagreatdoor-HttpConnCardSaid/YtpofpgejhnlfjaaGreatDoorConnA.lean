/- A connection of the program beside one of the reference: what both do is one. -/
import Derived.Test.YtpofpgejhnlfjaaGreatDoorRefG
import Derived.Test.YtpofpgejhnlfjaaGreatDoorHttpO
set_option linter.unusedVariables false
set_option linter.unusedSimpArgs false
set_option maxRecDepth 100000
namespace Go.Proofs.YtpofpgejhnlfjaaGreatDoor
open Go Go.RowKit Bpm Bph

structure CnT (H : RO) (w0 : World) (g1 g2 : Nat) (b1 : List UInt8) (o1 : Bool) (b2 : List UInt8) (o2 : Bool) (bv1 bv2 : Value) (W : World) : Prop where
  good : GoodH H W
  fr : Fr [] w0 W
  c1 : Cn H W g1 bv1 b1 o1
  c2 : RCn H W g2 bv2 (if o2 = true then [] else b2) o2
  ne : g1 ≠ g2
  nb1 : ∀ k, bv1.ownBlock = some k → k ≠ g2 ∧ w0.heap.size ≤ k ∧ bv2.ownBlock ≠ some k
  nb2 : ∀ k, bv2.ownBlock = some k → k ≠ g1 ∧ w0.heap.size ≤ k
  ge1 : w0.heap.size ≤ g1
  ge2 : w0.heap.size ≤ g2
def CnS (H : RO) (w0 : World) (g1 g2 : Nat) (b1 : List UInt8) (o1 : Bool) (b2 : List UInt8) (o2 : Bool) (W : World) : Prop := ∃ bv1 bv2, CnT H w0 g1 g2 b1 o1 b2 o2 bv1 bv2 W
theorem CnS.good {H : RO} {w0 : World} {g1 g2 : Nat} {b1 b2 : List UInt8} {o1 o2 : Bool} {W : World} (h : CnS H w0 g1 g2 b1 o1 b2 o2 W) : GoodH H W := by
  obtain ⟨_, _, h⟩ := h; exact h.good
theorem CnS.fr0 {H : RO} {w0 : World} {g1 g2 : Nat} {b1 b2 : List UInt8} {o1 o2 : Bool} {W : World} (h : CnS H w0 g1 g2 b1 o1 b2 o2 W) : Fr [] w0 W := by
  obtain ⟨_, _, h⟩ := h; exact h.fr
theorem CnT.go {H : RO} {w0 : World} {g1 g2 : Nat} {b1 b2 : List UInt8} {o1 o2 : Bool} {bv1 bv2 : Value} {W W' : World} (h : CnT H w0 g1 g2 b1 o1 b2 o2 bv1 bv2 W) (f : Fr [] W W') : CnT H w0 g1 g2 b1 o1 b2 o2 bv1 bv2 W' :=
  ⟨h.good.fr f (by simp), h.fr.trans f, h.c1.fr f (by simp) (by simp), h.c2.fr f (by simp) (by simp), h.ne, h.nb1, h.nb2, h.ge1, h.ge2⟩
theorem CnS.go {H : RO} {w0 : World} {g1 g2 : Nat} {b1 b2 : List UInt8} {o1 o2 : Bool} {W W' : World} (h : CnS H w0 g1 g2 b1 o1 b2 o2 W) (f : Fr [] W W') : CnS H w0 g1 g2 b1 o1 b2 o2 W' := by
  obtain ⟨bv1, bv2, h⟩ := h; exact ⟨bv1, bv2, h.go f⟩

/-! ### Feed -/
theorem feed1 {H : RO} {w0 : World} {g1 g2 : Nat} {b1 b2 l : List UInt8} {o2 : Bool} {W : World} {b : Value} (h : CnS H w0 g1 g2 b1 false b2 o2 W) (hb : BytR H b l) (hl : b1.length + l.length ≤ 1048576) :
    Calls Tryz.prog 9 #[.pointer (some ⟨g1, 0, none⟩), b] W fun e w' => e = .returned (.int .i64 0) ∧ CnS H w0 g1 g2 (b1 ++ l) false b2 o2 w' := by
  obtain ⟨bv1, bv2, h⟩ := h
  refine (feed_cn H W h.good g1 bv1 b b1 l h.c1 hb hl).mono ?_
  rintro e w' ⟨rfl, f, hg, bv', hc, hn⟩
  have hlt := h.c2.lt
  refine ⟨rfl, bv', bv2, hg, h.fr.then f (fun x hx => ?_), hc, h.c2.fr f ?_ ?_, h.ne, fun k hk => ?_, h.nb2, h.ge1, h.ge2⟩
  · right
    rcases List.mem_cons.1 hx with rfl | hx
    · exact h.ge1
    · exact (h.nb1 x (by simpa using hx)).2.1
  · intro hx
    rcases List.mem_cons.1 hx with hx | hx
    · exact h.ne hx.symm
    · exact (h.nb1 g2 (by simpa using hx)).1 rfl
  · intro k hk hx
    rcases List.mem_cons.1 hx with hx | hx
    · exact (h.nb2 k hk).1 hx
    · exact (h.nb1 k (by simpa using hx)).2.2 hk
  · rcases hn with e | ⟨k', e, hge⟩
    · rw [e] at hk; exact h.nb1 k hk
    · rw [e] at hk; cases hk
      have := h.fr.size
      refine ⟨by omega, by omega, fun hx => ?_⟩
      have := h.c2.own.lt hx
      omega
theorem feed2 {H : RO} {w0 : World} {g1 g2 : Nat} {b1 b2 l : List UInt8} {o1 : Bool} {W : World} {b : Value} (h : CnS H w0 g1 g2 b1 o1 b2 false W) (hb : BytR H b l) (hl : b2.length + l.length ≤ 1048576) :
    Calls Tryz.prog 15 #[.pointer (some ⟨g2, 0, none⟩), b] W fun e w' => e = .returned (.int .i64 0) ∧ CnS H w0 g1 g2 b1 o1 (b2 ++ l) false w' := by
  obtain ⟨bv1, bv2, h⟩ := h
  refine (rfeed_ok H W h.good g2 bv2 b b2 l h.c2 hb hl).mono ?_
  rintro e w' ⟨rfl, f, hg, bv', hc, hn⟩
  have hlt := h.c1.lt
  refine ⟨rfl, bv1, bv', hg, h.fr.then f (fun x hx => ?_), h.c1.fr f ?_ ?_, hc, h.ne, fun k hk => ⟨(h.nb1 k hk).1, (h.nb1 k hk).2.1, fun hx => ?_⟩, fun k hk => ?_, h.ge1, h.ge2⟩
  · right
    rcases List.mem_cons.1 hx with rfl | hx
    · exact h.ge2
    · exact (h.nb2 x (by simpa using hx)).2
  · intro hx
    rcases List.mem_cons.1 hx with hx | hx
    · exact h.ne hx
    · exact (h.nb2 g1 (by simpa using hx)).1 rfl
  · intro k hk hx
    rcases List.mem_cons.1 hx with hx | hx
    · exact (h.nb1 k hk).1 hx
    · exact (h.nb1 k hk).2.2 (by simpa using hx)
  · rcases hn with e | ⟨k', e, hge⟩
    · rw [e] at hx; exact (h.nb1 k hk).2.2 hx
    · rw [e] at hx; cases hx
      have := h.c1.own.lt hk
      omega
  · rcases hn with e | ⟨k', e, hge⟩
    · rw [e] at hk; exact h.nb2 k hk
    · rw [e] at hk; cases hk
      have := h.fr.size
      exact ⟨by omega, by omega⟩
theorem feed1o {H : RO} {w0 : World} {g1 g2 : Nat} {b1 b2 : List UInt8} {o2 : Bool} {W : World} {b : Value} (h : CnS H w0 g1 g2 b1 true b2 o2 W) :
    Calls Tryz.prog 9 #[.pointer (some ⟨g1, 0, none⟩), b] W fun e w' => e = .returned (.int .i64 10) ∧ W = w' := by
  obtain ⟨bv1, bv2, h⟩ := h
  exact feed_over W g1 bv1 b h.c1.at_
theorem feed2o {H : RO} {w0 : World} {g1 g2 : Nat} {b1 b2 : List UInt8} {o1 : Bool} {W : World} {b : Value} (h : CnS H w0 g1 g2 b1 o1 b2 true W) :
    Calls Tryz.prog 15 #[.pointer (some ⟨g2, 0, none⟩), b] W fun e w' => e = .returned (.int .i64 10) ∧ W = w' := by
  obtain ⟨bv1, bv2, h⟩ := h
  exact rfeed_over W g2 bv2 b h.c2.at_

/-! ### Next -/
structure Nx where
  r : Req
  st : Int
  is : Bool
  buf : List UInt8
  over : Bool
def nxO (b : List UInt8) (o : Bool) : Nx :=
  if o = true then ⟨Req.none, 0, false, b, true⟩ else
    match parse b with
    | .more => ⟨Req.none, 0, false, b, false⟩
    | .fault st => ⟨Req.none, st, true, b, true⟩
    | .done r n => ⟨r, 0, true, b.drop n, r.close⟩
def mzr (b : List UInt8) (o : Bool) : Nat := if o = true then 0 else b.length + 1
theorem nxO_lt {b : List UInt8} {o : Bool} (h : (nxO b o).is = true) : mzr (nxO b o).buf (nxO b o).over < mzr b o := by
  unfold nxO at h ⊢
  split at h
  · cases h
  · rename_i ho
    rw [if_neg ho]
    cases hp : parse b with
    | more => rw [hp] at h; cases h
    | fault st => simp only [mzr]; rw [if_neg ho]; simp
    | done r n =>
      have := parse_done hp
      simp only [mzr]
      rw [if_neg ho]
      split
      · omega
      · simp; omega
theorem nxO_le (b : List UInt8) (o : Bool) : (nxO b o).buf.length ≤ b.length := by
  unfold nxO
  split
  · exact Nat.le_refl _
  · split
    · exact Nat.le_refl _
    · exact Nat.le_refl _
    · simp
theorem zero_req (H : RO) : ReqR H zeroV Req.none := ⟨_, _, rfl, RowR.nil H, RowR.nil H⟩
def Nx1 (H : RO) (w0 : World) (g1 g2 : Nat) (b1 : List UInt8) (o1 : Bool) (b2 : List UInt8) (o2 : Bool) (W : World) (e : Ending) (w' : World) : Prop :=
  ∃ v H', e = .returned (.tuple #[v, .int .i64 (nxO b1 o1).st, .bool (nxO b1 o1).is]) ∧ ReqR H' v (nxO b1 o1).r ∧ Ext H H' W ∧ Fr [g1] W w' ∧ CnS H' w0 g1 g2 (nxO b1 o1).buf (nxO b1 o1).over b2 o2 w'
def Nx2 (H : RO) (w0 : World) (g1 g2 : Nat) (b1 : List UInt8) (o1 : Bool) (b2 : List UInt8) (o2 : Bool) (W : World) (e : Ending) (w' : World) : Prop :=
  ∃ v H', e = .returned (.tuple #[v, .int .i64 (nxO b2 o2).st, .bool (nxO b2 o2).is]) ∧ ReqR H' v (nxO b2 o2).r ∧ Ext H H' W ∧ Fr [g2] W w' ∧ CnS H' w0 g1 g2 b1 o1 (nxO b2 o2).buf (nxO b2 o2).over w'
theorem next1 {H : RO} {w0 : World} {g1 g2 : Nat} {b1 b2 : List UInt8} {o1 o2 : Bool} {W : World} (hE : Env H) (h : CnS H w0 g1 g2 b1 o1 b2 o2 W) (hs : b1.length ≤ 2000000) :
    Calls Tryz.prog 10 #[.pointer (some ⟨g1, 0, none⟩)] W (Nx1 H w0 g1 g2 b1 o1 b2 o2 W) := by
  obtain ⟨bv1, bv2, h⟩ := h
  have hn1 : ∀ k, bv2.ownBlock = some k → k ∉ [g1] := fun k hk => by have := (h.nb2 k hk).1; simpa using this
  have hn2 : g2 ∉ [g1] := by simpa using h.ne.symm
  cases o1 with
  | true =>
    refine (next_none H W h.good g1 bv1 b1 h.c1).mono ?_
    rintro e w' ⟨rfl, f⟩
    exact ⟨zeroV, H, rfl, zero_req H, Ext.refl _ _, Fr.mono f (by simp), bv1, bv2, h.go f⟩
  | false =>
    refine (next_cn H W hE h.good g1 bv1 b1 h.c1 hs).mono ?_
    rintro e w' ⟨f, hx⟩
    have hfr := h.fr.then f (fun x hx => by simp at hx; subst hx; exact .inr h.ge1)
    unfold Nx1 nxO
    rw [if_neg (by simp)]
    cases hp : parse b1 with
    | more =>
      rw [hp] at hx
      obtain ⟨rfl, hg, hc⟩ := hx
      exact ⟨zeroV, H, rfl, zero_req H, Ext.refl _ _, f, bv1, bv2, hg, hfr, hc, h.c2.fr f hn2 hn1, h.ne, h.nb1, h.nb2, h.ge1, h.ge2⟩
    | fault st =>
      rw [hp] at hx
      obtain ⟨rfl, hg, hc⟩ := hx
      exact ⟨zeroV, H, rfl, zero_req H, Ext.refl _ _, f, bv1, bv2, hg, hfr, hc, h.c2.fr f hn2 hn1, h.ne, h.nb1, h.nb2, h.ge1, h.ge2⟩
    | done r n =>
      rw [hp] at hx
      obtain ⟨v, bv', H', rfl, hr, hx, hg, hc, hk, _⟩ := hx
      exact ⟨v, H', rfl, hr, hx, f, bv', bv2, hg, hfr, hc, (h.c2.ext hx (Nat.le_refl _)).fr f hn2 hn1, h.ne, by rw [hk]; exact h.nb1, h.nb2, h.ge1, h.ge2⟩
theorem next2 {H : RO} {w0 : World} {g1 g2 : Nat} {b1 b2 : List UInt8} {o1 o2 : Bool} {W : World} (h : CnS H w0 g1 g2 b1 o1 b2 o2 W) (hs : b2.length ≤ 2000000) :
    Calls Tryz.prog 16 #[.pointer (some ⟨g2, 0, none⟩)] W (Nx2 H w0 g1 g2 b1 o1 b2 o2 W) := by
  obtain ⟨bv1, bv2, h⟩ := h
  have hn1 : ∀ k, bv1.ownBlock = some k → k ∉ [g2] := fun k hk => by have := (h.nb1 k hk).1; simpa using this
  have hn2 : g1 ∉ [g2] := by simpa using h.ne
  cases o2 with
  | true =>
    refine (rnext_none W g2 bv2 h.c2.at_).mono ?_
    rintro e w' ⟨rfl, f⟩
    exact ⟨zeroV, H, rfl, zero_req H, Ext.refl _ _, Fr.mono f (by simp), bv1, bv2, h.go f⟩
  | false =>
    refine (rnext_ok H W h.good g2 bv2 b2 h.c2 hs).mono ?_
    rintro e w' ⟨f, hx⟩
    have hfr := h.fr.then f (fun x hx => by simp at hx; subst hx; exact .inr h.ge2)
    unfold Nx2 nxO
    rw [if_neg (by simp)]
    cases hp : parse b2 with
    | more =>
      rw [hp] at hx
      obtain ⟨rfl, hg, hc⟩ := hx
      exact ⟨zeroV, H, rfl, zero_req H, Ext.refl _ _, f, bv1, bv2, hg, hfr, h.c1.fr f hn2 hn1, hc, h.ne, h.nb1, h.nb2, h.ge1, h.ge2⟩
    | fault st =>
      rw [hp] at hx
      obtain ⟨rfl, hg, hc⟩ := hx
      exact ⟨zeroV, H, rfl, zero_req H, Ext.refl _ _, f, bv1, .slice none 0 0, hg, hfr, h.c1.fr f hn2 hn1, hc, h.ne, (fun k hk => ⟨(h.nb1 k hk).1, (h.nb1 k hk).2.1, fun hx => by cases hx⟩), (fun k hk => by cases hk), h.ge1, h.ge2⟩
    | done r n =>
      rw [hp] at hx
      obtain ⟨v, bv', H', rfl, hr, hx, hg, hc, hk, _⟩ := hx
      have hz := h.fr.size
      refine ⟨v, H', rfl, hr, hx, f, bv1, bv', hg, hfr, (h.c1.ext hx (Nat.le_refl _)).fr f hn2 hn1, hc, h.ne, fun k hk' => ⟨(h.nb1 k hk').1, (h.nb1 k hk').2.1, fun hx => ?_⟩, fun k hk' => ?_, h.ge1, h.ge2⟩
      · have := hk k hx
        have := h.c1.own.lt hk'
        omega
      · have := hk k hk'
        have := h.c1.lt
        exact ⟨by omega, by omega⟩
/-! ### Over, Left -/
theorem over1 {H : RO} {w0 : World} {g1 g2 : Nat} {b1 b2 : List UInt8} {o1 o2 : Bool} {W : World} (h : CnS H w0 g1 g2 b1 o1 b2 o2 W) : Calls Tryz.prog 11 #[.pointer (some ⟨g1, 0, none⟩)] W fun e w' => e = .returned (.bool o1) ∧ W = w' := by
  obtain ⟨bv1, bv2, h⟩ := h; exact over_ok W g1 bv1 o1 h.c1.at_
theorem over2 {H : RO} {w0 : World} {g1 g2 : Nat} {b1 b2 : List UInt8} {o1 o2 : Bool} {W : World} (h : CnS H w0 g1 g2 b1 o1 b2 o2 W) : Calls Tryz.prog 17 #[.pointer (some ⟨g2, 0, none⟩)] W fun e w' => e = .returned (.bool o2) ∧ W = w' := by
  obtain ⟨bv1, bv2, h⟩ := h; exact rover_ok W g2 bv2 o2 h.c2.at_
def leftN (b : List UInt8) (o : Bool) : Nat := if o = true then 0 else b.length
theorem left1 {H : RO} {w0 : World} {g1 g2 : Nat} {b1 b2 : List UInt8} {o1 o2 : Bool} {W : World} (h : CnS H w0 g1 g2 b1 o1 b2 o2 W) : Calls Tryz.prog 18 #[.pointer (some ⟨g1, 0, none⟩)] W fun e w' => e = .returned (.int .i64 (leftN b1 o1 : Int)) ∧ W = w' := by
  obtain ⟨bv1, bv2, h⟩ := h; exact left_ok W g1 bv1 o1 b1 h.c1.at_ h.c1.own
theorem left2 {H : RO} {w0 : World} {g1 g2 : Nat} {b1 b2 : List UInt8} {o1 o2 : Bool} {W : World} (h : CnS H w0 g1 g2 b1 o1 b2 o2 W) : Calls Tryz.prog 19 #[.pointer (some ⟨g2, 0, none⟩)] W fun e w' => e = .returned (.int .i64 (leftN b2 o2 : Int)) ∧ W = w' := by
  obtain ⟨bv1, bv2, h⟩ := h
  refine (rleft_ok W g2 bv2 o2 _ h.c2.at_ h.c2.own).mono ?_
  rintro e w' ⟨rfl, rfl⟩
  refine ⟨?_, rfl⟩
  unfold leftN
  cases o2 <;> rfl
theorem two_conns (H : RO) (w : World) (hG : GoodH H w) :
    CnS H w w.heap.size (w.heap.size + 1) [] false [] false ((w.alloc (.cells #[.bool true, .slice none 0 0, .bool false] 62)).alloc (.cells #[.bool true, .slice none 0 0, .bool false] 69)) := by
  have f1 : Fr [] w (w.alloc (.cells #[.bool true, .slice none 0 0, .bool false] 62)) := (Fr.refl [] w).alloc _
  have f2 : Fr [] (w.alloc (.cells #[.bool true, .slice none 0 0, .bool false] 62)) ((w.alloc (.cells #[.bool true, .slice none 0 0, .bool false] 62)).alloc (.cells #[.bool true, .slice none 0 0, .bool false] 69)) := (Fr.refl [] _).alloc _
  have g1 := hG.fr f1 (by simp)
  have c2 := RCn.new g1
  rw [World.size_alloc] at c2
  exact ⟨_, _, g1.fr f2 (by simp), f1.trans f2, (Cn.new hG).fr f2 (by simp) (by simp), c2, by omega, (fun k hk => by cases hk), (fun k hk => by cases hk), Nat.le_refl _, by omega⟩
end Go.Proofs.YtpofpgejhnlfjaaGreatDoor
