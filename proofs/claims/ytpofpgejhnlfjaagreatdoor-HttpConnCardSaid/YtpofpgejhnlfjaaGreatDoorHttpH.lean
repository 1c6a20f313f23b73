/- The reader's states. -/
import Derived.Test.YtpofpgejhnlfjaaGreatDoorHttpG
set_option linter.unusedVariables false
set_option linter.unusedSimpArgs false
set_option maxRecDepth 100000
namespace Go.Proofs.YtpofpgejhnlfjaaGreatDoor
open Go Go.RowKit Bpm Bph

theorem line_more (w : World) (g : Nat) (bv : Value) (x : Rd) (buf : List UInt8) (hr : RdAt w g bv x) (hM : Mx w) (hB : BytW w bv buf) (hle : x.at_ ≤ buf.length) (hb : buf.length ≤ 2000000) (e : lineS (buf.drop x.at_) = .more) :
    Calls Tryz.prog 63 #[.pointer (some ⟨g, 0, none⟩)] w fun e w' => e = .returned (.tuple #[.string ⟨#[]⟩, .bool false]) ∧ RdAt w' g bv x ∧ Fr [g] w w' := by
  refine (line_ok w g bv x buf hr hM hB hle hb).mono ?_
  rintro r w' ⟨h1, h2⟩
  rw [e] at h2
  exact ⟨h2.1, h2.2, h1⟩
theorem line_bad (w : World) (g : Nat) (bv : Value) (x : Rd) (buf : List UInt8) (hr : RdAt w g bv x) (hM : Mx w) (hB : BytW w bv buf) (hle : x.at_ ≤ buf.length) (hb : buf.length ≤ 2000000) (e : lineS (buf.drop x.at_) = .bad) :
    Calls Tryz.prog 63 #[.pointer (some ⟨g, 0, none⟩)] w fun e w' => e = .returned (.tuple #[.string ⟨#[]⟩, .bool false]) ∧ (∃ k, RdAt w' g bv { x with st := 400, at_ := k }) ∧ Fr [g] w w' := by
  refine (line_ok w g bv x buf hr hM hB hle hb).mono ?_
  rintro r w' ⟨h1, h2⟩
  rw [e] at h2
  exact ⟨h2.1, h2.2, h1⟩
theorem line_got (w : World) (g : Nat) (bv : Value) (x : Rd) (buf : List UInt8) (hr : RdAt w g bv x) (hM : Mx w) (hB : BytW w bv buf) (hle : x.at_ ≤ buf.length) (hb : buf.length ≤ 2000000) {s : List UInt8} (e : lineS (buf.drop x.at_) = .got s) :
    Calls Tryz.prog 63 #[.pointer (some ⟨g, 0, none⟩)] w fun e w' => e = .returned (.tuple #[.string (bs s), .bool true]) ∧ RdAt w' g bv { x with at_ := x.at_ + s.length + 2 } ∧ Fr [g] w w' := by
  refine (line_ok w g bv x buf hr hM hB hle hb).mono ?_
  rintro r w' ⟨h1, h2⟩
  rw [e] at h2
  exact ⟨h2.1, h2.2, h1⟩

def Rd0 : Rd := ⟨0, [], [], .slice none 0 0, false, .slice none 0 0, 0, -1, 0, false⟩
structure NxC (H0 : RO) (w : World) (g : Nat) (bv : Value) (y : Rd) (H : RO) (W : World) : Prop where
  ext : Ext H0 H w
  good : GoodH H W
  fr : Fr [g] w W
  rd : RdAt W g bv y
/-- What does not turn while a request is read. -/
structure NxE (H0 : RO) (w : World) (g : Nat) (bv : Value) (buf : List UInt8) : Prop where
  env : Env H0
  lt : g < w.heap.size
  no : H0 g = none
  byt : BytW w bv buf
  far : ∀ k, bv.ownBlock = some k → k ≠ g
  small : buf.length ≤ 2000000
theorem NxC.none {H0 H : RO} {w W : World} {g : Nat} {bv : Value} {y : Rd} {buf : List UInt8} (h : NxC H0 w g bv y H W) (E : NxE H0 w g bv buf) : H g = Option.none := h.ext.none E.lt E.no
theorem NxC.env {H0 H : RO} {w W : World} {g : Nat} {bv : Value} {y : Rd} {buf : List UInt8} (h : NxC H0 w g bv y H W) (E : NxE H0 w g bv buf) : Env H := E.env.ext h.ext
theorem NxC.byt {H0 H : RO} {w W : World} {g : Nat} {bv : Value} {y : Rd} {buf : List UInt8} (h : NxC H0 w g bv y H W) (E : NxE H0 w g bv buf) : BytW W bv buf := E.byt.fr h.fr (fun k hk => by simpa using E.far k hk)
theorem NxC.mx {H0 H : RO} {w W : World} {g : Nat} {bv : Value} {y : Rd} {buf : List UInt8} (h : NxC H0 w g bv y H W) (E : NxE H0 w g bv buf) : Mx W := (h.env E).mx h.good
theorem NxC.to {H0 H : RO} {w W W' : World} {g : Nat} {bv : Value} {y y' : Rd} {buf : List UInt8} (h : NxC H0 w g bv y H W) (E : NxE H0 w g bv buf) (f : Fr [g] W W') (hr : RdAt W' g bv y') : NxC H0 w g bv y' H W' :=
  ⟨h.ext, h.good.fr f (fun x hx => by simp at hx; subst hx; exact h.none E), h.fr.trans f, hr⟩
theorem NxC.more {H0 H H' : RO} {w W W' : World} {g : Nat} {bv : Value} {y y' : Rd} {buf : List UInt8} (h : NxC H0 w g bv y H W) (E : NxE H0 w g bv buf) (x : Ext H H' W) (hG : GoodH H' W') (f : Fr [g] W W') (hr : RdAt W' g bv y') : NxC H0 w g bv y' H' W' :=
  ⟨h.ext.trans x h.fr.size, hG, h.fr.trans f, hr⟩

def sFn (k : Nat) : Value := .func (.func k) #[] #[]
def Fin_ (buf : List UInt8) (y : Rd) (H : RO) : Prop :=
  match parse buf with
  | .more => y.st = 0 ∧ y.wh = false
  | .fault st => y.st = st ∧ st ≠ 0
  | .done r n => y.st = 0 ∧ y.wh = true ∧ y.at_ = n ∧ n ≤ buf.length ∧ y.m = r.m ∧ y.p = r.p ∧ y.close = r.close ∧ ParR H y.q r.q ∧ BytR H y.body r.body
def HdI (buf : List UInt8) (y : Rd) (H : RO) (qs : List (List UInt8 × List UInt8)) : Prop :=
  y.at_ ≤ buf.length ∧ y.st = 0 ∧ y.wh = false ∧ ParR H y.q qs ∧ -1 ≤ y.len ∧ y.len ≤ 999999999
def Ph (buf : List UInt8) (s : Value) (y : Rd) (H : RO) (m : Nat) : Prop :=
  (s = sFn 35 ∧ y = Rd0 ∧ m = buf.length + 3) ∨
  (s = sFn 67 ∧ m = buf.length - y.at_ + 2 ∧ y.hd ≤ 32 ∧ ∃ qs, HdI buf y H qs ∧ parse buf = hdrs buf y.at_ y.hd y.len ⟨y.m, y.p, qs, y.close, []⟩) ∨
  (s = sFn 91 ∧ m = 1 ∧ ∃ qs, HdI buf y H qs ∧ parse buf = bodyS buf y.at_ y.len ⟨y.m, y.p, qs, y.close, []⟩) ∨
  (s = .nilFunc ∧ m = 0 ∧ Fin_ buf y H)
def NxS (H0 : RO) (w : World) (g : Nat) (bv : Value) (buf : List UInt8) (s : Value) (W : World) (m : Nat) : Prop := ∃ y H, NxC H0 w g bv y H W ∧ Ph buf s y H m
def StPost (H0 : RO) (w : World) (g : Nat) (bv : Value) (buf : List UInt8) (m0 : Nat) (e : Ending) (W : World) : Prop := ∃ s m, e = .returned s ∧ NxS H0 w g bv buf s W m ∧ m < m0

theorem fin_more {buf : List UInt8} {y : Rd} {H : RO} (h : parse buf = .more) (h1 : y.st = 0) (h2 : y.wh = false) : Fin_ buf y H := by unfold Fin_; rw [h]; exact ⟨h1, h2⟩
theorem fin_fault {buf : List UInt8} {y : Rd} {H : RO} {st : Int} (h : parse buf = .fault st) (h1 : y.st = st) (h0 : st ≠ 0) : Fin_ buf y H := by unfold Fin_; rw [h]; exact ⟨h1, h0⟩

theorem split_three {s m t v : List UInt8} (w : World) (hm : Mx w) (hs : s.length < 4294967281) (e : splitB 32 s = [m, t, v]) :
    Calls Tryz.prog 64 #[.string (bs s), .string ⟨#[32]⟩] w fun e w' => e = .returned (.slice (some ⟨w.heap.size, 0, none⟩) 3 3) ∧ w.alloc (.cells #[.string (bs m), .string (bs t), .string (bs v)] 9) = w' := by
  refine (split_ok (bs s) w hm (by rw [size_bs]; exact hs)).mono ?_
  rw [tl_bs, e]
  rintro r w' ⟨rfl, rfl⟩
  exact ⟨rfl, rfl⟩
theorem split_other {s : List UInt8} (w : World) (hm : Mx w) (hs : s.length < 4294967281) (e : (splitB 32 s).length ≠ 3) :
    Calls Tryz.prog 64 #[.string (bs s), .string ⟨#[32]⟩] w fun e w' => ∃ n : Nat, n ≠ 3 ∧ e = .returned (.slice (some ⟨w.heap.size, 0, none⟩) n n) ∧ Fr [] w w' := by
  refine (split_ok (bs s) w hm (by rw [size_bs]; exact hs)).mono ?_
  rintro r w' ⟨rfl, rfl⟩
  exact ⟨_, e, rfl, (Fr.refl [] w).alloc _⟩
theorem startS_other {s : List UInt8} (e : (splitB 32 s).length ≠ 3) : startS s = none := by
  unfold startS
  split
  · rename_i h; rw [h] at e; simp at e
  · rfl
theorem startS_three {s m t v : List UInt8} (e : splitB 32 s = [m, t, v]) : startS s = if v = ver ∧ 1 ≤ m.length ∧ m.length ≤ 16 ∧ m.all isUp = true then (tgt t).map fun x => ⟨m, x.1, x.2, false, []⟩ else Option.none := by
  unfold startS
  rw [e]
theorem parse_got {buf s : List UInt8} (e : lineS buf = .got s) : parse buf = match startS s with | Option.none => .fault 400 | some r => hdrs buf (s.length + 2) 0 (-1) r := by
  unfold parse
  rw [e]
  rfl
theorem three {l : List (List UInt8)} (h : l.length = 3) : ∃ a b c, l = [a, b, c] := by
  match l, h with
  | [a, b, c], _ => exact ⟨a, b, c, rfl⟩
theorem Env.ne {H : RO} {g : Nat} (hE : Env H) (hn : H g = none) : g ≠ 0 := by
  rintro rfl
  obtain ⟨m, t, fr, h⟩ := hE
  rw [hn] at h
  cases h
theorem ver_eq (v : List UInt8) : ((bs v).toList == [72, 84, 84, 80, 47, 49, 46, 49]) = decide (v = ver) := by
  rw [toList_tl, tl_bs, Bool.eq_iff_iff, beq_iff_eq, decide_eq_true_eq]
  rfl

set_option maxHeartbeats 4000000 in
theorem start_got (H0 H : RO) (w W : World) (g : Nat) (bv : Value) (buf s : List UInt8) (E : NxE H0 w g bv buf) (hC : NxC H0 w g bv Rd0 H W) (e : lineS buf = .got s) :
    Calls Tryz.prog 35 #[.pointer (some ⟨g, 0, none⟩)] W (StPost H0 w g bv buf (buf.length + 3)) := by
  have EE := hid E
  have CC := hid hC
  have hM := hC.mx E
  have hB := hC.byt E
  have hr := hC.rd
  have hs := E.small
  have hE := hC.env E
  have hno := hC.none E
  clear E hC
  have hd0 : buf.drop Rd0.at_ = buf := rfl
  have hl := line_got W g bv Rd0 buf hr hM hB (by simp [Rd0]) hs (by rw [hd0, e])
  obtain ⟨g1, g2, g3, g4⟩ := lineS_got e
  have hne := hE.ne hno
  have HN := hid hno
  clear hr hB hd0 g2 hno
  by_cases h3 : (splitB 32 s).length = 3
  · obtain ⟨m, t, v, h3⟩ := three h3
    have S3 := hid (startS_three h3)
    have P3 := hid (parse_got e)
    have hsm : m.length ≤ s.length := split_len (c := 32) m (by rw [h3]; simp)
    have hst : t.length ≤ s.length := split_len (c := 32) t (by rw [h3]; simp)
    cases hv : decide (v = ver) with
    | false =>
      have hv1 : ((bs v).toList == [72, 84, 84, 80, 47, 49, 46, 49]) = false := by rw [ver_eq, hv]
      have HV := hid (show (if v = ver ∧ 1 ≤ m.length ∧ m.length ≤ 16 ∧ m.all isUp = true then (tgt t).map fun x => (⟨m, x.1, x.2, false, []⟩ : Req) else Option.none) = none by rw [if_neg (by simp at hv; simp [hv])])
      go_enter Tryz.func35, Tryz.ntmps35
      go_wp2_with (first
        | (go_at_call 63; refine hl.mono ?_; rintro e w1 ⟨rfl, r1, f1⟩; have R1 := hid r1; have F1 := hid f1; have hM1 := hid (hM.fr f1 (by simpa using Ne.symm hne)); clear r1 f1)
        | (go_at_call 64; refine (split_three _ hM1.out (by omega) h3).mono ?_; rintro e w' ⟨rfl, rfl⟩)
        | (go_at_call 66; refine (wrong_ok _ g bv _ (RdAt.fr R1.out ((Fr.refl [] w1).alloc _) (by simp)) 400).mono ?_; rintro e w2 ⟨rfl, r2, f2⟩; have R2 := hid r2; have F2 := hid f2; clear r2 f2))
      go_ret
      have hp : parse buf = .fault 400 := by rw [P3.out, S3.out, HV.out]
      exact ⟨_, _, rfl, ⟨_, _, CC.out.to EE.out ((F1.out.then ((Fr.refl [] w1).alloc _) (by simp)).then F2.out (by simp)) R2.out, .inr (.inr (.inr ⟨rfl, rfl, fin_fault hp rfl (by decide)⟩))⟩, by omega⟩
    | true =>
      have hv1 : ((bs v).toList == [72, 84, 84, 80, 47, 49, 46, 49]) = true := by rw [ver_eq, hv]
      have hm0 := size_bs m
      by_cases m1 : 1 ≤ m.length
      · by_cases m2 : m.length ≤ 16
        · cases m3 : m.all isUp with
          | false =>
            have HV := hid (show (if v = ver ∧ 1 ≤ m.length ∧ m.length ≤ 16 ∧ m.all isUp = true then (tgt t).map fun x => (⟨m, x.1, x.2, false, []⟩ : Req) else Option.none) = none by rw [if_neg (by simp [m3])])
            go_enter Tryz.func35, Tryz.ntmps35
            go_wp2_with (first
              | (go_at_call 63; refine hl.mono ?_; rintro e w1 ⟨rfl, r1, f1⟩; have R1 := hid r1; have F1 := hid f1; have hM1 := hid (hM.fr f1 (by simpa using Ne.symm hne)); have hE1 := hid (CC.out.to EE.out f1 r1); clear r1 f1)
              | (go_at_call 64; refine (split_three _ hM1.out (by omega) h3).mono ?_; rintro e w' ⟨rfl, rfl⟩)
              | (go_at_call 66; refine (wrong_ok _ g bv _ (RdAt.fr R1.out ((Fr.refl [] w1).alloc _) (by simp)) 400).mono ?_; rintro e w2 ⟨rfl, r2, f2⟩; have R2 := hid r2; have F2 := hid f2; clear r2 f2)
              | (go_at_call 38; refine (all_isUp (bs m) _ (by rw [size_bs]; unfold maxLen; omega)).mono ?_; rintro e w' ⟨rfl, rfl⟩; rw [tl_bs]))
            go_ret
            have hp : parse buf = .fault 400 := by rw [P3.out, S3.out, HV.out]
            exact ⟨_, _, rfl, ⟨_, _, CC.out.to EE.out ((F1.out.then ((Fr.refl [] w1).alloc _) (by simp)).then F2.out (by simp)) R2.out, .inr (.inr (.inr ⟨rfl, rfl, fin_fault hp rfl (by decide)⟩))⟩, by omega⟩
          | true =>
            cases ht : tgt t with
            | none =>
              have HV := hid (show (if v = ver ∧ 1 ≤ m.length ∧ m.length ≤ 16 ∧ m.all isUp = true then (tgt t).map fun x => (⟨m, x.1, x.2, false, []⟩ : Req) else Option.none) = none by rw [if_pos ⟨by simpa using hv, m1, m2, m3⟩, ht]; rfl)
              go_enter Tryz.func35, Tryz.ntmps35
              go_wp2_with (first
                | (go_at_call 63; refine hl.mono ?_; rintro e w1 ⟨rfl, r1, f1⟩; have R1 := hid r1; have F1 := hid f1; have hM1 := hid (hM.fr f1 (by simpa using Ne.symm hne)); have hE1 := hid (CC.out.to EE.out f1 r1); clear r1 f1)
                | (go_at_call 64; refine (split_three _ hM1.out (by omega) h3).mono ?_; rintro e w' ⟨rfl, rfl⟩)
                | (go_at_call 66; refine (wrong_ok _ g bv _ (RdAt.fr R1.out (((Fr.refl [] w1).alloc _).trans F3.out) (by simp)) 400).mono ?_; rintro e w2 ⟨rfl, r2, f2⟩; have R2 := hid r2; have F2 := hid f2; clear r2 f2)
                | (go_at_call 38; refine (all_isUp (bs m) _ (by rw [size_bs]; unfold maxLen; omega)).mono ?_; rintro e w' ⟨rfl, rfl⟩; rw [tl_bs])
                | (go_at_call 21; refine (target_ok H (bs t) _ (by rw [size_bs]; omega) hE (hE1.out.good.fr ((Fr.refl [] w1).alloc _) (by simp))).mono ?_; rintro e w3 ⟨f3, hx⟩; rw [tl_bs, ht] at hx; obtain rfl := hx; have F3 := hid f3; clear f3))
              go_ret
              have hp : parse buf = .fault 400 := by rw [P3.out, S3.out, HV.out]
              exact ⟨_, _, rfl, ⟨_, _, CC.out.to EE.out ((F1.out.then (((Fr.refl [] w1).alloc _).trans F3.out) (by simp)).then F2.out (by simp)) R2.out, .inr (.inr (.inr ⟨rfl, rfl, fin_fault hp rfl (by decide)⟩))⟩, by omega⟩
            | some r =>
              obtain ⟨pp, ps⟩ := r
              have HV := hid (show (if v = ver ∧ 1 ≤ m.length ∧ m.length ≤ 16 ∧ m.all isUp = true then (tgt t).map fun x => (⟨m, x.1, x.2, false, []⟩ : Req) else Option.none) = some ⟨m, pp, ps, false, []⟩ by rw [if_pos ⟨by simpa using hv, m1, m2, m3⟩, ht]; rfl)
              go_enter Tryz.func35, Tryz.ntmps35
              go_wp2_with (first
                | (go_at_call 63; refine hl.mono ?_; rintro e w1 ⟨rfl, r1, f1⟩; have R1 := hid r1; have F1 := hid f1; have hM1 := hid (hM.fr f1 (by simpa using Ne.symm hne)); have hE1 := hid (CC.out.to EE.out f1 r1); clear r1 f1)
                | (go_at_call 64; refine (split_three _ hM1.out (by omega) h3).mono ?_; rintro e w' ⟨rfl, rfl⟩)
                | (go_at_call 66; refine (wrong_ok _ g bv _ (RdAt.fr R1.out (((Fr.refl [] w1).alloc _).trans F3.out) (by simp)) 400).mono ?_; rintro e w2 ⟨rfl, r2, f2⟩; have R2 := hid r2; have F2 := hid f2; clear r2 f2)
                | (go_at_call 38; refine (all_isUp (bs m) _ (by rw [size_bs]; unfold maxLen; omega)).mono ?_; rintro e w' ⟨rfl, rfl⟩; rw [tl_bs])
                | (go_at_call 21; refine (target_ok H (bs t) _ (by rw [size_bs]; omega) hE (hE1.out.good.fr ((Fr.refl [] w1).alloc _) (by simp))).mono ?_; rintro e w3 ⟨f3, hx⟩; rw [tl_bs, ht] at hx; obtain ⟨qv, H', rfl, x3, g3', q3⟩ := hx; obtain ⟨A3, c3, rfl⟩ := row_slice q3; have F3 := hid f3; have X3 := hid x3; have G3 := hid g3'; have r3 := RdAt.fr R1.out (((Fr.refl [] w1).alloc _).trans f3) (by simp); have k0 := f3.cell (blk_cell (blk_new w1 (.cells #[.string (bs m), .string (bs t), .string (bs v)] 9)) 0) (by simp); have d2 := blk_cell r3 2; have e2 := blk_free r3 2; have d3 := blk_cell r3 3; have e3 := blk_free r3 3; have d4 := blk_cell r3 4; have e4 := blk_free r3 4; simp [Rd.cells, Rd0] at k0 d2 d3 d4; have R3 := hid r3; have Q3 := hid q3; clear f3 x3 g3' q3 r3))
              go_ret
              have hp : parse buf = hdrs buf (s.length + 2) 0 (-1) ⟨m, pp, ps, false, []⟩ := by rw [P3.out, S3.out, HV.out]
              have F4 : Fr [g] W (((w3.setCell ⟨g, 2, none⟩ (.string (bs m))).setCell ⟨g, 3, none⟩ (.string (bs pp))).setCell ⟨g, 4, none⟩ (.slice A3 ps.length c3)) := (((F1.out.then (((Fr.refl [] w1).alloc _).trans F3.out) (by simp)).setCell (.inl (by simp)) _).setCell (.inl (by simp)) _).setCell (.inl (by simp)) _
              have hx : Ext H H' W := ⟨X3.out.mono, fun k hk => X3.out.old k (by have := F1.out.size; simp; omega)⟩
              have hg3 : H' g = none := (X3.out.old g (by have := F1.out.size; have := CC.out.fr.size; have := EE.out.lt; simp; omega)).trans HN.out
              have hG : GoodH H' (((w3.setCell ⟨g, 2, none⟩ (.string (bs m))).setCell ⟨g, 3, none⟩ (.string (bs pp))).setCell ⟨g, 4, none⟩ (.slice A3 ps.length c3)) := G3.out.fr ((((Fr.refl [g] w3).setCell (.inl (by simp)) _).setCell (.inl (by simp)) _).setCell (.inl (by simp)) _) (fun x hx => by simp at hx; subst hx; exact hg3)
              refine ⟨_, _, rfl, ⟨_, _, CC.out.more EE.out hx hG F4 ((R3.out.set_m m).set_p pp |>.set_q _), .inr (.inl ⟨rfl, rfl, by simp [Rd0], ps, ⟨?_, rfl, rfl, Q3.out, by simp [Rd0], by simp [Rd0]⟩, ?_⟩)⟩, ?_⟩
              · simp [Rd0]; omega
              · rw [hp]; simp [Rd0]
              · simp [Rd0]; omega
        · have HV := hid (show (if v = ver ∧ 1 ≤ m.length ∧ m.length ≤ 16 ∧ m.all isUp = true then (tgt t).map fun x => (⟨m, x.1, x.2, false, []⟩ : Req) else Option.none) = none by rw [if_neg (by omega)])
          go_enter Tryz.func35, Tryz.ntmps35
          go_wp2_with (first
            | (go_at_call 63; refine hl.mono ?_; rintro e w1 ⟨rfl, r1, f1⟩; have R1 := hid r1; have F1 := hid f1; have hM1 := hid (hM.fr f1 (by simpa using Ne.symm hne)); have hE1 := hid (CC.out.to EE.out f1 r1); clear r1 f1)
            | (go_at_call 64; refine (split_three _ hM1.out (by omega) h3).mono ?_; rintro e w' ⟨rfl, rfl⟩)
            | (go_at_call 66; refine (wrong_ok _ g bv _ (RdAt.fr R1.out ((Fr.refl [] w1).alloc _) (by simp)) 400).mono ?_; rintro e w2 ⟨rfl, r2, f2⟩; have R2 := hid r2; have F2 := hid f2; clear r2 f2))
          go_ret
          have hp : parse buf = .fault 400 := by rw [P3.out, S3.out, HV.out]
          exact ⟨_, _, rfl, ⟨_, _, CC.out.to EE.out ((F1.out.then ((Fr.refl [] w1).alloc _) (by simp)).then F2.out (by simp)) R2.out, .inr (.inr (.inr ⟨rfl, rfl, fin_fault hp rfl (by decide)⟩))⟩, by omega⟩
      · have HV := hid (show (if v = ver ∧ 1 ≤ m.length ∧ m.length ≤ 16 ∧ m.all isUp = true then (tgt t).map fun x => (⟨m, x.1, x.2, false, []⟩ : Req) else Option.none) = none by rw [if_neg (by omega)])
        go_enter Tryz.func35, Tryz.ntmps35
        go_wp2_with (first
          | (go_at_call 63; refine hl.mono ?_; rintro e w1 ⟨rfl, r1, f1⟩; have R1 := hid r1; have F1 := hid f1; have hM1 := hid (hM.fr f1 (by simpa using Ne.symm hne)); have hE1 := hid (CC.out.to EE.out f1 r1); clear r1 f1)
          | (go_at_call 64; refine (split_three _ hM1.out (by omega) h3).mono ?_; rintro e w' ⟨rfl, rfl⟩)
          | (go_at_call 66; refine (wrong_ok _ g bv _ (RdAt.fr R1.out ((Fr.refl [] w1).alloc _) (by simp)) 400).mono ?_; rintro e w2 ⟨rfl, r2, f2⟩; have R2 := hid r2; have F2 := hid f2; clear r2 f2))
        go_ret
        have hp : parse buf = .fault 400 := by rw [P3.out, S3.out, HV.out]
        exact ⟨_, _, rfl, ⟨_, _, CC.out.to EE.out ((F1.out.then ((Fr.refl [] w1).alloc _) (by simp)).then F2.out (by simp)) R2.out, .inr (.inr (.inr ⟨rfl, rfl, fin_fault hp rfl (by decide)⟩))⟩, by omega⟩
  · have S3 := hid (startS_other h3)
    have P3 := hid (parse_got e)
    go_enter Tryz.func35, Tryz.ntmps35
    go_wp2_with (first
      | (go_at_call 63; refine hl.mono ?_; rintro e w1 ⟨rfl, r1, f1⟩; have R1 := hid r1; have F1 := hid f1; have hM1 := hid (hM.fr f1 (by simpa using Ne.symm hne)); clear r1 f1)
      | (go_at_call 64; refine (split_other _ hM1.out (by omega) h3).mono ?_; rintro e w2 ⟨n, hn, rfl, f2⟩; have F2 := hid f2; clear f2)
      | (go_at_call 66; refine (wrong_ok _ g bv _ (RdAt.fr R1.out F2.out (by simp)) 400).mono ?_; rintro e w3 ⟨rfl, r3, f3⟩; have R3 := hid r3; have F3 := hid f3; clear r3 f3))
    go_ret
    have hp : parse buf = .fault 400 := by rw [P3.out, S3.out]
    exact ⟨_, _, rfl, ⟨_, _, CC.out.to EE.out ((F1.out.then F2.out (by simp)).then F3.out (by simp)) R3.out, .inr (.inr (.inr ⟨rfl, rfl, fin_fault hp rfl (by decide)⟩))⟩, by omega⟩

set_option maxHeartbeats 4000000 in
theorem start_ok (H0 H : RO) (w W : World) (g : Nat) (bv : Value) (buf : List UInt8) (E : NxE H0 w g bv buf) (hC : NxC H0 w g bv Rd0 H W) :
    Calls Tryz.prog 35 #[.pointer (some ⟨g, 0, none⟩)] W (StPost H0 w g bv buf (buf.length + 3)) := by
  have EE := hid E
  have CC := hid hC
  have hM := hC.mx E
  have hB := hC.byt E
  have hr := hC.rd
  have hs := E.small
  clear E hC
  have hd0 : buf.drop Rd0.at_ = buf := rfl
  cases e : lineS buf with
  | more =>
    have hl := line_more W g bv Rd0 buf hr hM hB (by simp [Rd0]) hs (by rw [hd0, e])
    have hp := hid (show parse buf = .more by unfold parse; rw [e])
    clear hr hB hM
    go_enter Tryz.func35, Tryz.ntmps35
    go_wp2_with (first | (go_at_call 63; refine hl.mono ?_; rintro e w1 ⟨rfl, r1, f1⟩; have R1 := hid r1; have F1 := hid f1; clear r1 f1))
    go_ret
    exact ⟨_, _, rfl, ⟨_, _, CC.out.to EE.out F1.out R1.out, .inr (.inr (.inr ⟨rfl, rfl, fin_more hp.out rfl rfl⟩))⟩, by omega⟩
  | bad =>
    have hl := line_bad W g bv Rd0 buf hr hM hB (by simp [Rd0]) hs (by rw [hd0, e])
    have hp := hid (show parse buf = .fault 400 by unfold parse; rw [e])
    clear hr hB hM
    go_enter Tryz.func35, Tryz.ntmps35
    go_wp2_with (first | (go_at_call 63; refine hl.mono ?_; rintro e w1 ⟨rfl, ⟨k, r1⟩, f1⟩; have R1 := hid r1; have F1 := hid f1; clear r1 f1))
    go_ret
    exact ⟨_, _, rfl, ⟨_, _, CC.out.to EE.out F1.out R1.out, .inr (.inr (.inr ⟨rfl, rfl, fin_fault hp.out rfl (by decide)⟩))⟩, by omega⟩
  | got s => exact start_got H0 H w W g bv buf s EE.out CC.out e
end Go.Proofs.YtpofpgejhnlfjaaGreatDoor
