/- The law's 'lives'. -/
import Derived.Test.YtpofpgejhnlfjaaGreatDoorHttpM
set_option linter.unusedVariables false
set_option linter.unusedSimpArgs false
set_option maxRecDepth 100000
namespace Go.Proofs.YtpofpgejhnlfjaaGreatDoor
open Go Go.RowKit Bpm Bph

/-- Two new connections. -/
structure Two (H : RO) (w W : World) (g1 g2 : Nat) : Prop where
  good : GoodH H W
  fr : Fr [] w W
  c1 : Cn H W g1 (.slice none 0 0) [] false
  c2 : Cn H W g2 (.slice none 0 0) [] false
  ne : g1 ≠ g2
  ge1 : w.heap.size ≤ g1
  ge2 : w.heap.size ≤ g2
theorem two_new (H : RO) (w : World) (hG : GoodH H w) : Two H w ((w.alloc (.cells #[.bool true, .slice none 0 0, .bool false] 62)).alloc (.cells #[.bool true, .slice none 0 0, .bool false] 62)) w.heap.size (w.heap.size + 1) := by
  have f1 : Fr [] w (w.alloc (.cells #[.bool true, .slice none 0 0, .bool false] 62)) := (Fr.refl [] w).alloc _
  have f2 : Fr [] (w.alloc (.cells #[.bool true, .slice none 0 0, .bool false] 62)) ((w.alloc (.cells #[.bool true, .slice none 0 0, .bool false] 62)).alloc (.cells #[.bool true, .slice none 0 0, .bool false] 62)) := (Fr.refl [] _).alloc _
  have g1 := hG.fr f1 (by simp)
  have c2 := Cn.new g1
  rw [World.size_alloc] at c2
  exact ⟨g1.fr f2 (by simp), f1.trans f2, (Cn.new hG).fr f2 (by simp) (by simp), c2, by omega, Nat.le_refl _, by omega⟩
theorem add_good {H : RO} {W : World} (hG : GoodH H W) (o : Obj) : GoodH (H.add W.heap.size o) (W.alloc o) := (hG.fr ((Fr.refl [] W).alloc o) (by simp)).add (blk_new W o)
theorem add_ext {H : RO} {W : World} (hG : GoodH H W) (o : Obj) : Ext H (H.add W.heap.size o) W := Ext.add H W (Nat.le_refl _) o (hG.none_ge (Nat.le_refl _))

set_option maxHeartbeats 4000000 in
theorem lives_ok (H : RO) (w : World) (hE : Env H) (hG : GoodH H w) : Calls Tryz.prog 7 #[] w fun e w' => e = .returned (.bool true) ∧ Fr [] w w' := by
  have EE := hid hE
  have GG := hid hG
  have TT := two_new H w hG
  clear hE hG
  go_enter Tryz.func7, Tryz.ntmps7
  go_wp2_with (first | (go_at_call 8; refine (new_ok _).mono ?_; rintro e w' ⟨rfl, rfl⟩))
  generalize (w.alloc _).alloc _ = W2 at TT ⊢
  generalize w.heap.size = g1 at TT ⊢
  generalize g1 + 1 = g2 at TT ⊢
  have T2 := hid TT
  clear TT
  refine (get_ok _).mono ?_
  rintro e w' ⟨rfl, rfl⟩
  go_wp2_with fail
  obtain ⟨H3, hH3⟩ : ∃ H3, H3 = H.add W2.heap.size (.cells getC 5 (29, 30)) := ⟨_, rfl⟩
  have x3 := add_ext T2.out.good (.cells getC 5 (29, 30))
  have y3 := add_good T2.out.good (.cells getC 5 (29, 30))
  have z3 : BytR (H.add W2.heap.size (.cells getC 5 (29, 30))) (.slice (some ⟨W2.heap.size, 0, none⟩) 29 29) getL := byt_lit (RO.add_at _ _ _) rfl (by omega) (by omega) getC_eq
  rw [← hH3] at x3 y3 z3
  have c3 := (T2.out.c1.ext x3 (Nat.le_refl _)).fr ((Fr.refl [] W2).alloc (.cells getC 5 (29, 30))) (by simp) (by simp)
  have d3 := (T2.out.c2.ext x3 (Nat.le_refl _)).fr ((Fr.refl [] W2).alloc (.cells getC 5 (29, 30))) (by simp) (by simp)
  have F3 := hid (T2.out.fr.trans ((Fr.refl [] W2).alloc (.cells getC 5 (29, 30))))
  have X3 := hid x3
  refine (feed_cn H3 _ y3 g1 _ _ [] getL c3 z3 (by decide)).mono ?_
  rintro e W4 ⟨rfl, f4, y4, bv1, c4, hb4⟩
  generalize W2.alloc _ = W3 at y3 c3 d3 F3 f4 hb4
  have hb1 := hid (show ∀ k, bv1.ownBlock = some k → k ≠ g2 from fun k hk => by
    rcases hb4 with e | ⟨k', e, hk'⟩
    · rw [e] at hk; cases hk
    · rw [e] at hk; cases hk; have := d3.lt; omega)
  rw [List.nil_append] at c4
  have d4 := d3.fr f4 (by simpa [Value.ownBlock] using Ne.symm T2.out.ne) (by simp [Value.ownBlock])
  have F4 := hid (F3.out.then f4 (fun x hx => .inr (by simp [Value.ownBlock] at hx; subst hx; exact T2.out.ge1)))
  -- the second: what is no request
  obtain ⟨H5, hH5⟩ : ∃ H5, H5 = H3.add W4.heap.size (.cells badC 5 (16, 17)) := ⟨_, rfl⟩
  have x5 := add_ext y4 (.cells badC 5 (16, 17))
  have y5 := add_good y4 (.cells badC 5 (16, 17))
  have z5 : BytR (H3.add W4.heap.size (.cells badC 5 (16, 17))) (.slice (some ⟨W4.heap.size, 0, none⟩) 16 16) badL := byt_lit (RO.add_at _ _ _) rfl (by omega) (by omega) badC_eq
  rw [← hH5] at x5 y5 z5
  have kc := Lib.run_convert_bytes_const (P := Tryz.prog) W4 22 5 badC 16 16 Tryz.underlying22 Tryz.underlying5
  have f5 : Fr [] W4 (W4.alloc (.cells badC 5 (16, 17))) := (Fr.refl [] W4).alloc _
  have c5 := hid ((c4.ext x5 (Nat.le_refl _)).fr f5 (by simp) (by simp))
  have d5 := hid ((d4.ext x5 (Nat.le_refl _)).fr f5 (by simp) (by simp))
  have F5 := hid (F4.out.trans f5)
  have Y5 := hid y5
  have Z5 := hid z5
  have X5 := hid x5
  have hg12 := hid T2.out.ne
  clear c3 d3 y3 z3 x3 x5 y5 z5 hH3 hH5 f5 f4 y4 c4 d4 hb4
  rw [show badC.size = 16 from rfl] at kc
  generalize hW5 : W4.alloc (.cells badC 5 (16, 16 + 1)) = W5 at kc
  rw [show (16 + 1 : Nat) = 17 from rfl] at hW5
  rw [hW5] at c5 d5 F5 Y5
  simp only [badC] at kc
  clear hW5
  go_wp2_with fail
  refine (feed_cn H5 _ Y5.out g2 _ _ [] badL d5.out Z5.out (by decide)).mono ?_
  rintro e W6 ⟨rfl, f6, y6, bv2, d6, hb6⟩
  rw [List.nil_append] at d6
  have hb2 := hid (show ∀ k, bv2.ownBlock = some k → k ≠ g1 from fun k hk => by
    rcases hb6 with e | ⟨k', e, hk'⟩
    · rw [e] at hk; cases hk
    · rw [e] at hk; cases hk; have := c5.out.lt; omega)
  have c6 := c5.out.fr f6 (by simpa [Value.ownBlock] using hg12.out) (by simpa [Value.ownBlock] using hb1.out)
  have F6 := hid (F5.out.then f6 (fun x hx => .inr (by simp [Value.ownBlock] at hx; subst hx; exact T2.out.ge2)))
  have E6 : Env H5 := (EE.out.ext X3.out).ext X5.out
  have D6 := hid d6
  have N6 := hid (next_cn H5 W6 E6 y6 g1 bv1 getL c6 (by decide))
  clear f6 d6 y6 kc hb6 E6 c6
  go_wp2_with fail
  refine N6.out.mono ?_
  rintro e W7 ⟨f7, hx⟩
  rw [parse_get] at hx
  obtain ⟨v7, bv7, H7, rfl, r7, x7, y7, c7, hk7, _⟩ := hx
  have F7 := hid (F6.out.then f7 (fun x hx => .inr (by simp at hx; subst hx; exact T2.out.ge1)))
  have d7 := ((D6.out.ext x7 (Nat.le_refl _)).fr f7 (by simpa using Ne.symm hg12.out) (by simpa using hb2.out))
  have hR7 := hid r7
  obtain ⟨q7, bd7, rfl, hq7, hbd7⟩ := r7
  obtain ⟨A7, k7, rfl⟩ := row_slice hq7
  obtain ⟨A7', k7', rfl⟩ := row_slice hbd7
  have E7 : Env H7 := ((EE.out.ext X3.out).ext X5.out).ext x7
  have N7 := hid (next_cn H7 (W7.alloc (.cells #[.string (bs getR.m), .string (bs getR.p), .slice A7 getR.q.length k7, .bool getR.close, .slice A7' getR.body.length k7'] 32)) E7 (y7.fr ((Fr.refl [] W7).alloc _) (by simp)) g2 bv2 badL (d7.fr ((Fr.refl [] W7).alloc _) (by simp) (by simp)) (by decide))
  have hg2 := d7.lt
  have hbx := hid (blk_new W7 (.cells #[.string (bs getR.m), .string (bs getR.p), .slice A7 getR.q.length k7, .bool getR.close, .slice A7' getR.body.length k7'] 32))
  have F8 := hid (F7.out.trans ((Fr.refl [] W7).alloc (.cells #[.string (bs getR.m), .string (bs getR.p), .slice A7 getR.q.length k7, .bool getR.close, .slice A7' getR.body.length k7'] 32)))
  clear f7 x7 y7 c7 d7 E7 hk7 hq7 hbd7
  go_wp2_with fail
  refine N7.out.mono ?_
  rintro e W9 ⟨f9, hx⟩
  rw [parse_bad] at hx
  obtain ⟨rfl, y9, d9⟩ := hx
  simp only [zeroV, reqZ]
  have b9 := f9.blk hbx.out (by simp; omega)
  have F9 := hid (F8.out.then f9 (fun x hx => .inr (by simp at hx; subst hx; exact T2.out.ge2)))
  have b10 := blk_alloc b9 (.cells #[.string ⟨#[]⟩, .string ⟨#[]⟩, .slice none 0 0, .bool false, .slice none 0 0] 32)
  have s0 := blk_cell b10 0
  have s1 := blk_cell b10 1
  have s2 := blk_cell b10 2
  have s3 := blk_cell b10 3
  have s4 := blk_cell b10 4
  simp at s0 s1 s2 s3 s4
  clear f9 b9 b10
  have Y9 := hid y9
  have D9 := hid d9
  clear y9 d9
  go_wp2_with fail
  have Y10 := Y9.out.fr ((Fr.refl [] W9).alloc (.cells #[.string ⟨#[]⟩, .string ⟨#[]⟩, .slice none 0 0, .bool false, .slice none 0 0] 32)) (by simp)
  have D10 := D9.out.fr ((Fr.refl [] W9).alloc (.cells #[.string ⟨#[]⟩, .string ⟨#[]⟩, .slice none 0 0, .bool false, .slice none 0 0] 32)) (by simp) (by simp)
  have F10 := F9.out.trans ((Fr.refl [] W9).alloc (.cells #[.string ⟨#[]⟩, .string ⟨#[]⟩, .slice none 0 0, .bool false, .slice none 0 0] 32))
  have hz10 : (W9.alloc (.cells #[.string ⟨#[]⟩, .string ⟨#[]⟩, .slice none 0 0, .bool false, .slice none 0 0] 32)).heap.size = W9.heap.size + 1 := World.size_alloc _ _
  generalize W9.alloc _ = W10 at Y10 D10 F10 hz10 ⊢
  rw [← hz10]
  have hlit : ReqR (H7.add W10.heap.size (.cells #[.string ⟨#[120]⟩, .string ⟨#[49]⟩, .string ⟨#[121]⟩, .string ⟨#[]⟩] 60 (0, 0))) (.agg #[.string ⟨#[71, 69, 84]⟩, .string ⟨#[47, 97, 32, 98]⟩, .slice (some ⟨W10.heap.size, 0, none⟩) 2 2, .bool false, .slice none 0 0]) getR :=
    ⟨_, _, rfl, ⟨_, 2, rfl, (by decide), (by decide), fun _ => ⟨_, 0, _, _, _, rfl, RO.add_at _ _ _, fun j hj => by
      have hj : j < 4 := hj
      rcases j with _ | _ | _ | _ | j
      · rfl
      · rfl
      · rfl
      · rfl
      · omega⟩⟩, ⟨none, 0, rfl, (by decide), (by decide), fun h => absurd rfl h⟩⟩
  refine (sameRequest_ok (H7.add W10.heap.size (.cells #[.string ⟨#[120]⟩, .string ⟨#[49]⟩, .string ⟨#[121]⟩, .string ⟨#[]⟩] 60 (0, 0))) _ (add_good Y10 _) _ _ getR (hR7.out.ext (add_ext Y10 _)) hlit).mono ?_
  rintro e W12 ⟨rfl, f12⟩
  have F12 := hid ((F10.trans ((Fr.refl [] W10).alloc _)).trans f12)
  have D12 := hid ((D10.fr ((Fr.refl [] W10).alloc _) (by simp) (by simp)).fr f12 (by simp) (by simp))
  clear hlit f12 Y10 D10 F10 hz10 s0 s1 s2 s3 s4
  go_wp2_with (go_at_call 11; refine (over_ok _ g2 bv2 true D12.out.at_).mono ?_; rintro e w' ⟨rfl, rfl⟩)
  go_ret
  exact ⟨rfl, F12.out⟩
end Go.Proofs.YtpofpgejhnlfjaaGreatDoor
