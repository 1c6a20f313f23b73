/- The law 'HttpPieces': its walk. -/
import Derived.Test.YtpofpgejhnlfjaaGreatDoorHttpP
set_option linter.unusedVariables false
set_option linter.unusedSimpArgs false
set_option maxRecDepth 100000
namespace Go.Proofs.YtpofpgejhnlfjaaGreatDoor
open Go Go.RowKit Bpm Bph

def Stop (buf : List UInt8) (over : Bool) : Prop := over = true ∨ parse buf = .more
theorem next_stop (H : RO) (W : World) (hE : Env H) (hG : GoodH H W) {g : Nat} {bv : Value} {buf : List UInt8} {over : Bool} {vx : Value} {xs : List (Req × Int)} (h : Dn H W g bv buf over vx xs) (hs : buf.length ≤ 2000000) (hst : Stop buf over) :
    Calls Tryz.prog 10 #[.pointer (some ⟨g, 0, none⟩)] W fun e W' => e = .returned (.tuple #[zeroV, .int .i64 0, .bool false]) ∧ Fr [g] W W' ∧ GoodH H W' ∧ Dn H W' g bv buf over vx xs := by
  cases over with
  | true =>
    refine (next_none H W hG g bv buf h.cn).mono ?_
    rintro e w' ⟨rfl, f⟩
    exact ⟨rfl, Fr.mono f (by simp), hG.fr f (by simp), h.fr f (by simp)⟩
  | false =>
    have hp : parse buf = .more := by rcases hst with h | h; cases h; exact h
    refine (next_cn H W hE hG g bv buf h.cn hs).mono ?_
    rintro e w' ⟨f, hx⟩
    rw [hp] at hx
    exact ⟨hx.1, f, hx.2.1, h.next f (Ext.refl _ _) hx.2.2 rfl⟩
structure Step_ (buf buf' : List UInt8) (over' : Bool) (p : Req × Int) : Prop where
  tell : ∀ b xs, Tell b xs buf false → Tell b (xs ++ [p]) buf' over'
  le : buf'.length ≤ buf.length
  lt : over' = false → buf'.length < buf.length
def EvPost (H : RO) (W : World) (g : Nat) (bv : Value) (buf' : List UInt8) (over' : Bool) (vx : Value) (xs : List (Req × Int)) (p : Req × Int) (e : Ending) (W' : World) : Prop :=
  ∃ q bd bv' H', e = .returned (.tuple #[.agg #[.string (bs p.1.m), .string (bs p.1.p), q, .bool p.1.close, bd], .int .i64 p.2, .bool true]) ∧ ParR H' q p.1.q ∧ BytR H' bd p.1.body ∧ Fr [g] W W' ∧ Ext H H' W ∧ GoodH H' W' ∧ Dn H' W' g bv' buf' over' vx xs ∧ bv'.ownBlock = bv.ownBlock
theorem next_event (H : RO) (W : World) (hE : Env H) (hG : GoodH H W) {g : Nat} {bv : Value} {buf : List UInt8} {over : Bool} {vx : Value} {xs : List (Req × Int)} (h : Dn H W g bv buf over vx xs) (hs : buf.length ≤ 2000000) (hst : ¬ Stop buf over) :
    over = false ∧ ∃ buf' over' p, Step_ buf buf' over' p ∧ Calls Tryz.prog 10 #[.pointer (some ⟨g, 0, none⟩)] W (EvPost H W g bv buf' over' vx xs p) := by
  have ho : over = false := by
    cases over with
    | true => exact absurd (.inl rfl) hst
    | false => rfl
  subst ho
  refine ⟨rfl, ?_⟩
  cases hp : parse buf with
  | more => exact absurd (.inr hp) hst
  | fault st =>
    refine ⟨buf, true, (Req.none, st), ⟨fun b xs ht => ht.fault hp, Nat.le_refl _, fun h => by cases h⟩, ?_⟩
    refine (next_cn H W hE hG g bv buf h.cn hs).mono ?_
    rintro e w' ⟨f, hx⟩
    rw [hp] at hx
    exact ⟨.slice none 0 0, .slice none 0 0, bv, H, hx.1, RowR.nil H, RowR.nil H, f, Ext.refl _ _, hx.2.1, h.next f (Ext.refl _ _) hx.2.2 rfl, rfl⟩
  | done r n =>
    have hn := parse_done hp
    refine ⟨buf.drop n, r.close, (r, 0), ⟨fun b xs ht => ht.done hp, by simp, fun _ => by simp; omega⟩, ?_⟩
    refine (next_cn H W hE hG g bv buf h.cn hs).mono ?_
    rintro e w' ⟨f, hx⟩
    rw [hp] at hx
    obtain ⟨v, bv', H', h1, ⟨q, bd, rfl, h2, h3⟩, h4, h5, h6, h7, _⟩ := hx
    exact ⟨q, bd, bv', H', h1, h2, h3, f, h4, h5, h.next f h4 h6 h7, h7⟩

/-- What the first loop holds. -/
structure L1c (H0 : RO) (w0 : World) (g1 g2 : Nat) (b : List UInt8) (H : RO) (bv : Value) (buf : List UInt8) (over : Bool) (vx : Value) (xs : List (Req × Int)) (W : World) : Prop where
  ext : Ext H0 H w0
  good : GoodH H W
  fr : Fr [] w0 W
  d1 : Dn H W g1 bv buf over vx xs
  d2 : Dn H W g2 (.slice none 0 0) [] false (.slice none 0 0) []
  sep : Sep g1 bv vx g2 (.slice none 0 0) (.slice none 0 0)
  ge1 : w0.heap.size ≤ g1
  ge2 : w0.heap.size ≤ g2
  geb : ∀ k, fp g1 bv vx k → w0.heap.size ≤ k
  tell : Tell b xs buf over
  len : xs.length ≤ b.length + 1
  len2 : over = false → xs.length + buf.length ≤ b.length
  blen : buf.length ≤ b.length
def L1 (H0 : RO) (w0 : World) (g1 g2 : Nat) (b : List UInt8) (k : Nat) (s7 s9 s11 : Value) (W : World) : Prop :=
  ∃ H bv buf over xs z, s9 = .int .i64 (lastSt xs) ∧ s11 = .int .i64 z ∧ L1c H0 w0 g1 g2 b H bv buf over s7 xs W ∧ (over = false → buf.length + 1 ≤ k)

theorem L1_start {H : RO} {w1 W2 W3 : World} {g1 g2 : Nat} {b : List UInt8} {e : Ending} (hT : Two H w1 W2 g1 g2) (h : FdPost H W2 g1 (.slice none 0 0) ([] ++ b) e W3) : ∃ bv, L1c H w1 g1 g2 b H bv b false (.slice none 0 0) [] W3 := by
  obtain ⟨_, f, hG, bv, hc, hk⟩ := h
  rw [List.nil_append] at hc
  have hbv : ∀ k, bv.ownBlock = some k → W2.heap.size ≤ k := fun k hk' => by
    rcases hk with e | ⟨k', e, hge⟩
    · rw [e] at hk'; cases hk'
    · rw [e] at hk'; cases hk'; exact hge
  have hsz := hT.fr.size
  have h2 : ∀ k, fp g2 (.slice none 0 0) (.slice none 0 0) k → k = g2 := fun k hk => by
    rcases hk with rfl | hk | hk
    · rfl
    · cases hk
    · cases hk
  refine ⟨bv, Ext.refl _ _, hG, hT.fr.then f (fun x hx => .inr (by simp [Value.ownBlock] at hx; subst hx; exact hT.ge1)), ⟨hc, ⟨[], OwnR.nil _ _ _, rfl⟩, fun k hk => (by cases hk)⟩, ?_, ?_, hT.ge1, hT.ge2, ?_, Tell.start b, by simp, fun _ => by simp, Nat.le_refl _⟩
  · exact ⟨hT.c2.fr f (by simpa [Value.ownBlock] using Ne.symm hT.ne) (by simp [Value.ownBlock]), ⟨[], OwnR.nil _ _ _, rfl⟩, fun k hk => (by cases hk)⟩
  · intro k h1 h3
    have := h2 k h3
    subst this
    rcases h1 with h1 | h1 | h1
    · exact hT.ne h1.symm
    · have := hbv _ h1; have := hT.c2.lt; omega
    · cases h1
  · intro k hk
    rcases hk with rfl | hk | hk
    · exact hT.ge1
    · have := hbv k hk; omega
    · cases hk
/-- A round of the first loop: an event, and the list with it. -/
theorem L1_round {H0 H H' : RO} {w0 W W1 W4 : World} {g1 g2 : Nat} {b : List UInt8} {bv bv' : Value} {buf buf' : List UInt8} {over' : Bool} {vx vx' : Value} {xs : List (Req × Int)} {p : Req × Int} (h : L1c H0 w0 g1 g2 b H bv buf false vx xs W) (hs : Step_ buf buf' over' p)
    (f1 : Fr [g1] W W1) (x : Ext H H' W) (hG : GoodH H' W4) (hk : bv'.ownBlock = bv.ownBlock) (f4 : Fr vx.ownBlock.toList W1 W4) (hk' : vx'.ownBlock = vx.ownBlock ∨ ∃ k, vx'.ownBlock = some k ∧ W1.heap.size ≤ k) (hd : Dn H' W4 g1 bv' buf' over' vx' (xs ++ [p])) :
    L1c H0 w0 g1 g2 b H' bv' buf' over' vx' (xs ++ [p]) W4 := by
  have hf : ∀ k, fp g1 bv' vx' k → fp g1 bv vx k ∨ W1.heap.size ≤ k := fun k hk1 => by
    rcases hk1 with rfl | h1 | h1
    · exact .inl (.inl rfl)
    · exact .inl (.inr (.inl (by rw [← hk]; exact h1)))
    · rcases hk' with e | ⟨k', e, hge⟩
      · exact .inl (.inr (.inr (by rw [← e]; exact h1)))
      · rw [e] at h1; cases h1; exact .inr hge
  have hz := h.fr.size
  have hz1 := f1.size
  have d1 := ((h.d2.ext x).fr f1 (fun k hk2 hx => by simp at hx; exact h.sep k (.inl hx) hk2))
  refine ⟨h.ext.trans x hz, hG, (h.fr.then f1 (fun x hx => .inr (by simp at hx; subst hx; exact h.ge1))).then f4 (fun x hx => .inr (h.geb x (.inr (.inr (by simpa using hx))))), hd, ?_, ?_, h.ge1, h.ge2, ?_, hs.tell b xs h.tell, ?_, ?_, ?_⟩
  · exact d1.fr f4 (fun k hk2 hx => h.sep k (.inr (.inr (by simpa using hx))) hk2)
  · intro k hk1 hk2
    rcases hf k hk1 with h1 | h1
    · exact h.sep k h1 hk2
    · have := h.d2.lt hk2; omega
  · intro k hk1
    rcases hf k hk1 with h1 | h1
    · exact h.geb k h1
    · omega
  · have := h.len2 rfl; simp; omega
  · intro ho; have := h.len2 rfl; have := hs.lt ho; simp; omega
  · have := hs.le; have := h.blen; omega

/-- What the second loop holds: the first connection's list stands; the second connection has had 'pre'. -/
structure L2c (H0 : RO) (w0 : World) (g1 g2 : Nat) (b : List UInt8) (bv1 : Value) (buf1 : List UInt8) (over1 : Bool) (vx : Value) (xs : List (Req × Int)) (H : RO) (bv : Value) (buf : List UInt8) (over : Bool) (vy : Value) (ys : List (Req × Int)) (pre rest : List UInt8) (W : World) : Prop where
  ext : Ext H0 H w0
  good : GoodH H W
  fr : Fr [] w0 W
  d1 : Dn H W g1 bv1 buf1 over1 vx xs
  d2 : Dn H W g2 bv buf over vy ys
  sep : Sep g1 bv1 vx g2 bv vy
  geb : ∀ k, fp g2 bv vy k → w0.heap.size ≤ k
  tell : Tell pre ys buf over
  cat : pre ++ rest = b
  len : ys.length ≤ b.length + 1
  len2 : over = false → ys.length + buf.length ≤ pre.length
  blen : buf.length ≤ b.length
theorem L2_start {H0 H : RO} {w0 W W1 : World} {g1 g2 : Nat} {b : List UInt8} {bv : Value} {buf : List UInt8} {over : Bool} {vx : Value} {xs : List (Req × Int)} (h : L1c H0 w0 g1 g2 b H bv buf over vx xs W) (f : Fr [g1] W W1) (hG : GoodH H W1) (hd : Dn H W1 g1 bv buf over vx xs) :
    L2c H0 w0 g1 g2 b bv buf over vx xs H (.slice none 0 0) [] false (.slice none 0 0) [] [] b W1 :=
  ⟨h.ext, hG, h.fr.then f (fun x hx => .inr (by simp at hx; subst hx; exact h.ge1)), hd, h.d2.fr f (fun k hk2 hx => by simp at hx; exact h.sep k (.inl hx) hk2), h.sep, fun k hk => (by
    rcases hk with rfl | hk | hk
    · exact h.ge2
    · cases hk
    · cases hk), Tell.start [], rfl, by simp, fun _ => by simp, by simp⟩
section
variable {H0 H : RO} {w0 W : World} {g1 g2 : Nat} {b : List UInt8} {bv1 : Value} {buf1 : List UInt8} {over1 : Bool} {vx : Value} {xs : List (Req × Int)} {bv : Value} {buf : List UInt8} {over : Bool} {vy : Value} {ys : List (Req × Int)} {pre rest : List UInt8}
theorem L2c.told (h : L2c H0 w0 g1 g2 b bv1 buf1 over1 vx xs H bv buf over vy ys pre rest W) (hs : Stop buf over) : (Bph.drain pre).evs = ys ∧ (Bph.drain pre).over = over ∧ (over = false → (Bph.drain pre).rest = buf) := by
  cases over with
  | true => exact ⟨h.tell.over.1, h.tell.over.2, fun e => by cases e⟩
  | false =>
    have hp : parse buf = .more := by rcases hs with e | e; cases e; exact e
    have := h.tell.more hp
    exact ⟨this.1, this.2.1, fun _ => this.2.2⟩
theorem L1c.told {bv : Value} (h : L1c H0 w0 g1 g2 b H bv buf over vx xs W) (hs : Stop buf over) : (Bph.drain b).evs = xs ∧ (Bph.drain b).over = over := by
  cases over with
  | true => exact h.tell.over
  | false =>
    have hp : parse buf = .more := by rcases hs with e | e; cases e; exact e
    have := h.tell.more hp
    exact ⟨this.1, this.2.1⟩
/-- The end of the second loop: both have told the same. -/
theorem L2c.same (h : L2c H0 w0 g1 g2 b bv1 buf1 over1 vx xs H bv buf over vy ys pre rest W) (hs : Stop buf over) (he : rest = [] ∨ over = true) (h1 : (Bph.drain b).evs = xs ∧ (Bph.drain b).over = over1) : ys = xs ∧ over = over1 := by
  obtain ⟨t1, t2, _⟩ := h.told hs
  rcases he with rfl | rfl
  · have hc := h.cat
    rw [List.append_nil] at hc
    subst hc
    exact ⟨t1.symm.trans h1.1, t2.symm.trans h1.2⟩
  · have := tell_all (x := rest) t2
    rw [h.cat] at this
    exact ⟨(t1.symm.trans this.1.symm).trans h1.1, this.2.symm.trans h1.2⟩
theorem L2_feed (h : L2c H0 w0 g1 g2 b bv1 buf1 over1 vx xs H bv buf false vy ys pre rest W) (hs : Stop buf false) {p rest' : List UInt8} (hr : rest = p ++ rest') {e : Ending} {W' : World} (hf : FdPost H W g2 bv (buf ++ p) e W') :
    ∃ bv', L2c H0 w0 g1 g2 b bv1 buf1 over1 vx xs H bv' (buf ++ p) false vy ys (pre ++ p) rest' W' := by
  obtain ⟨_, f, hG, bv', hc, hk⟩ := hf
  obtain ⟨t1, t2, t3⟩ := h.told hs
  have t3 := t3 rfl
  have hS : ∀ k, k ∈ g2 :: bv.ownBlock.toList → fp g2 bv vy k := fun k hk => by
    rcases List.mem_cons.1 hk with rfl | hk
    · exact .inl rfl
    · exact .inr (.inl (by simpa using hk))
  have hfp : ∀ k, fp g2 bv' vy k → fp g2 bv vy k ∨ W.heap.size ≤ k := fun k hk1 => by
    rcases hk1 with rfl | h1 | h1
    · exact .inl (.inl rfl)
    · rcases hk with e | ⟨k', e, hge⟩
      · exact .inl (.inr (.inl (by rw [← e]; exact h1)))
      · rw [e] at h1; cases h1; exact .inr hge
    · exact .inl (.inr (.inr h1))
  obtain ⟨cs, ho, he⟩ := h.d2.own
  have hz := h.fr.size
  have hcat := h.cat
  have hl2 := h.len2 rfl
  refine ⟨bv', h.ext, hG, h.fr.then f (fun x hx => .inr (h.geb x (hS x hx))), h.d1.fr f (fun k hk1 hx => h.sep k hk1 (hS k hx)), ⟨hc, ⟨cs, ho.fr f (fun k hk1 hx => ?_), he⟩, fun k hk1 => ?_⟩, ?_, ?_, ?_, ?_, ?_, ?_, ?_⟩
  · rcases List.mem_cons.1 hx with e | hx
    · exact (h.d2.no k hk1).2.1 e
    · exact (h.d2.no k hk1).2.2 (by simpa using hx)
  · refine ⟨(h.d2.no k hk1).1, (h.d2.no k hk1).2.1, fun hb => ?_⟩
    rcases hk with e | ⟨k', e, hge⟩
    · exact (h.d2.no k hk1).2.2 (by rw [← e]; exact hb)
    · rw [e] at hb; cases hb; have := ho.lt hk1; omega
  · intro k hk1 hk2
    rcases hfp k hk2 with h2 | h2
    · exact h.sep k hk1 h2
    · have := h.d1.lt hk1; omega
  · intro k hk2
    rcases hfp k hk2 with h2 | h2
    · exact h.geb k h2
    · omega
  · have := Tell.feed (x := p) t2
    rw [t1, t3] at this
    exact this
  · rw [List.append_assoc, ← hr, hcat]
  · exact h.len
  · intro _; simp; omega
  · rw [← hcat, hr]; simp; omega
theorem L2_stop (h : L2c H0 w0 g1 g2 b bv1 buf1 over1 vx xs H bv buf over vy ys pre rest W) {W' : World} (f : Fr [g2] W W') (hG : GoodH H W') (hd : Dn H W' g2 bv buf over vy ys) : L2c H0 w0 g1 g2 b bv1 buf1 over1 vx xs H bv buf over vy ys pre rest W' :=
  ⟨h.ext, hG, h.fr.then f (fun x hx => .inr (by simp at hx; subst hx; exact h.geb _ (.inl rfl))), h.d1.fr f (fun k hk1 hx => by simp at hx; exact h.sep k hk1 (.inl hx)), hd, h.sep, h.geb, h.tell, h.cat, h.len, h.len2, h.blen⟩
theorem L2_over (h : L2c H0 w0 g1 g2 b bv1 buf1 over1 vx xs H bv buf over vy ys pre rest W) {W' : World} (f : Fr [] W W') : L2c H0 w0 g1 g2 b bv1 buf1 over1 vx xs H bv buf over vy ys pre rest W' :=
  ⟨h.ext, h.good.fr f (by simp), h.fr.trans f, h.d1.fr f (by simp), h.d2.fr f (by simp), h.sep, h.geb, h.tell, h.cat, h.len, h.len2, h.blen⟩
theorem L2_round {H' : RO} {W1 W4 : World} {bv' vy' : Value} {buf' : List UInt8} {over' : Bool} {p : Req × Int} (h : L2c H0 w0 g1 g2 b bv1 buf1 over1 vx xs H bv buf false vy ys pre rest W) (hs : Step_ buf buf' over' p)
    (f1 : Fr [g2] W W1) (x : Ext H H' W) (hG : GoodH H' W4) (hk : bv'.ownBlock = bv.ownBlock) (f4 : Fr vy.ownBlock.toList W1 W4) (hk' : vy'.ownBlock = vy.ownBlock ∨ ∃ k, vy'.ownBlock = some k ∧ W1.heap.size ≤ k) (hd : Dn H' W4 g2 bv' buf' over' vy' (ys ++ [p])) :
    L2c H0 w0 g1 g2 b bv1 buf1 over1 vx xs H' bv' buf' over' vy' (ys ++ [p]) pre rest W4 := by
  have hf : ∀ k, fp g2 bv' vy' k → fp g2 bv vy k ∨ W1.heap.size ≤ k := fun k hk1 => by
    rcases hk1 with rfl | h1 | h1
    · exact .inl (.inl rfl)
    · exact .inl (.inr (.inl (by rw [← hk]; exact h1)))
    · rcases hk' with e | ⟨k', e, hge⟩
      · exact .inl (.inr (.inr (by rw [← e]; exact h1)))
      · rw [e] at h1; cases h1; exact .inr hge
  have hz := h.fr.size
  have hz1 := f1.size
  have hcl : pre.length + rest.length = b.length := by rw [← h.cat]; simp
  have d1 := ((h.d1.ext x).fr f1 (fun k hk2 hx => by simp at hx; exact h.sep k hk2 (.inl hx)))
  refine ⟨h.ext.trans x hz, hG, (h.fr.then f1 (fun x hx => .inr (by simp at hx; subst hx; exact h.geb _ (.inl rfl)))).then f4 (fun x hx => .inr (h.geb x (.inr (.inr (by simpa using hx))))), ?_, hd, ?_, ?_, hs.tell pre ys h.tell, h.cat, ?_, ?_, ?_⟩
  · exact d1.fr f4 (fun k hk2 hx => h.sep k hk2 (.inr (.inr (by simpa using hx))))
  · intro k hk1 hk2
    rcases hf k hk2 with h1 | h1
    · exact h.sep k hk1 h1
    · have := h.d1.lt hk1; omega
  · intro k hk1
    rcases hf k hk1 with h1 | h1
    · exact h.geb k h1
    · omega
  · have := h.len2 rfl; simp; omega
  · intro ho; have := h.len2 rfl; have := hs.lt ho; simp; omega
  · have := hs.le; have := h.blen; omega
end
end Go.Proofs.YtpofpgejhnlfjaaGreatDoor
