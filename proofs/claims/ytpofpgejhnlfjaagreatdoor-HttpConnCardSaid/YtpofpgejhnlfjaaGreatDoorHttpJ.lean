/- The reader's states: the body. Next. -/
import Derived.Test.YtpofpgejhnlfjaaGreatDoorHttpI
import Derived.StillTailTactics
set_option linter.unusedVariables false
set_option linter.unusedSimpArgs false
set_option maxRecDepth 100000
namespace Go.Proofs.YtpofpgejhnlfjaaGreatDoor
open Go Go.RowKit Bpm Bph

theorem RdAt.cells {w : World} {g : Nat} {bv : Value} {x : Rd} (h : RdAt w g bv x) : w.cell? ⟨g, 0, none⟩ = some bv ∧ w.cell? ⟨g, 1, none⟩ = some (.int .i64 x.at_) ∧ w.cell? ⟨g, 4 + 2, none⟩ = some x.body ∧ w.cell? ⟨g, 8, none⟩ = some (.int .i64 x.len) ∧ w.cell? ⟨g, 9, none⟩ = some (.int .i64 x.st) ∧ w.cell? ⟨g, 10, none⟩ = some (.bool x.wh) :=
  ⟨blk_cell h 0, blk_cell h 1, blk_cell h 6, blk_cell h 8, blk_cell h 9, blk_cell h 10⟩
theorem body_end {H0 H : RO} {w W w1 : World} {g : Nat} {bv v : Value} {buf bd : List UInt8} {y : Rd} {qs : List (List UInt8 × List UInt8)} {nn : Nat} (E : NxE H0 w g bv buf) (hC : NxC H0 w g bv y H W) (hI : HdI buf y H qs)
    (hp : parse buf = .done ⟨y.m, y.p, qs, y.close, bd⟩ (y.at_ + nn)) (hl : bd.length = nn) (hle : y.at_ + nn ≤ buf.length) (hr : RdAt w1 g bv y) (ho : OwnR w1 v 5 1 bd.length (u8s bd)) (f : Fr [] W w1) (ht : ∀ k, v.ownBlock = some k → W.heap.size ≤ k) :
    StPost H0 w g bv buf 1 (.returned .nilFunc) (((w1.setCell ⟨g, 6, none⟩ v).setCell ⟨g, 1, none⟩ (.int .i64 ((y.at_ : Int) + nn))).setCell ⟨g, 10, none⟩ (.bool true)) := by
  have hg : g < W.heap.size := Nat.lt_of_lt_of_le E.lt hC.fr.size
  have F : Fr [g] w1 (((w1.setCell ⟨g, 6, none⟩ v).setCell ⟨g, 1, none⟩ (.int .i64 ((y.at_ : Int) + nn))).setCell ⟨g, 10, none⟩ (.bool true)) := (((Fr.refl [g] w1).setCell (.inl (by simp)) _).setCell (.inl (by simp)) _).setCell (.inl (by simp)) _
  have hr' : RdAt (((w1.setCell ⟨g, 6, none⟩ v).setCell ⟨g, 1, none⟩ (.int .i64 ((y.at_ : Int) + nn))).setCell ⟨g, 10, none⟩ (.bool true)) g bv { y with body := v, at_ := y.at_ + nn, wh := true } := ((hr.set_body v).set_at (y.at_ + nn)).set_wh true
  have ho' := ho.fr F (fun k hk hx => by have := ht k hk; simp at hx; omega)
  obtain ⟨H', hG, hX, hR⟩ := ho'.read (H := H) ((hC.good.fr f (by simp)).fr F (fun x hx => by simp at hx; subst hx; exact hC.none E)) (fun k hk => hC.good.none_ge (ht k hk)) (w0 := W) ht
  refine ⟨_, 0, rfl, ⟨_, H', hC.more E hX hG ((Fr.mono f (by simp)).trans F) hr', .inr (.inr (.inr ⟨rfl, rfl, ?_⟩))⟩, by omega⟩
  unfold Fin_
  rw [hp]
  exact ⟨hI.2.1, rfl, rfl, hle, rfl, rfl, rfl, RowR.ext hI.2.2.2.1 hX, hR⟩
set_option maxHeartbeats 4000000 in
theorem body_ok (H0 H : RO) (w W : World) (g : Nat) (bv : Value) (buf : List UInt8) (y : Rd) (qs : List (List UInt8 × List UInt8)) (E : NxE H0 w g bv buf) (hC : NxC H0 w g bv y H W) (hI : HdI buf y H qs)
    (hp : parse buf = bodyS buf y.at_ y.len ⟨y.m, y.p, qs, y.close, []⟩) :
    Calls Tryz.prog 91 #[.pointer (some ⟨g, 0, none⟩)] W (StPost H0 w g bv buf 1) := by
  obtain ⟨A, c, rfl, hlc⟩ := byt_slice (hC.byt E)
  obtain ⟨c0, c1, c6, c8, c9, c10⟩ := hC.rd.cells
  have R := hid hC.rd
  have hB := hC.byt E
  have hs := E.small
  have EE := hid E
  have CC := hid hC
  clear E hC
  have hle := hI.1
  have l1 := hI.2.2.2.2.1
  have l2 := hI.2.2.2.2.2
  by_cases hbig : 262144 < y.len
  · have HP := hid (show parse buf = .fault 413 by rw [hp]; unfold bodyS; rw [if_pos (by omega)])
    clear hp
    go_enter Tryz.func91, Tryz.ntmps91
    go_wp2_with (first | (go_at_call 66; refine (wrong_ok _ g _ _ R.out 413).mono ?_; rintro e w2 ⟨rfl, r2, f2⟩; have R2 := hid r2; have F2 := hid f2; clear r2 f2))
    go_ret
    exact ⟨_, _, rfl, ⟨_, _, CC.out.to EE.out F2.out R2.out, .inr (.inr (.inr ⟨rfl, rfl, fin_fault HP.out rfl (by decide)⟩))⟩, by omega⟩
  · obtain ⟨nn, hnn⟩ : ∃ nn : Nat, max 0 y.len = (nn : Int) := ⟨y.len.toNat, by omega⟩
    have hnt : y.len.toNat = nn := by omega
    have hn2 : nn ≤ 262144 := by omega
    have hbs : parse buf = if buf.length < y.at_ + nn then .more else .done ⟨y.m, y.p, qs, y.close, (buf.drop y.at_).take nn⟩ (y.at_ + nn) := by
      rw [hp]; unfold bodyS; rw [if_neg (by omega), hnt]
    clear hp
    by_cases hshort : buf.length < y.at_ + nn
    · rw [if_pos hshort] at hbs
      have HP := hid hbs
      clear hbs
      have hq : (buf.length : Int) - y.at_ < max 0 y.len := by omega
      go_enter Tryz.func91, Tryz.ntmps91
      go_wp2
      go_quiet (fail)
      go_wp2
      go_ret
      exact ⟨_, _, rfl, ⟨_, _, CC.out.to EE.out ((Fr.refl [g] W).drewN _) R.out, .inr (.inr (.inr ⟨rfl, rfl, fin_more HP.out hI.2.1 hI.2.2.1⟩))⟩, by omega⟩
    · rw [if_neg hshort] at hbs
      have HP := hbs
      clear hbs
      have hq : ¬ ((buf.length : Int) - y.at_ < max 0 y.len) := by omega
      obtain ⟨A', c', hcut, hB2, hc2⟩ := mid_cut hB hlc y.at_ nn (by omega)
      rw [Int.natCast_add] at hcut
      go_enter Tryz.func91, Tryz.ntmps91
      go_wp2
      go_quiet (fail)
      go_wp2
      have hw : IntKind.i64.wrap ((y.at_ : Int) + nn) = (y.at_ : Int) + nn := IntWalk.i64_in _ (by omega)
      have ht : ((y.at_ : Int) + nn).toNat = y.at_ + nn := by omega
      have hx1 : (0 : Int) ≤ (y.at_ : Int) + nn := by omega
      have hx2 : (y.at_ : Int) + nn ≤ c := by omega
      have hx3 : y.at_ ≤ y.at_ + nn := by omega
      have hx4 : y.at_ + nn - y.at_ = nn := by omega
      obtain ⟨bd, hbd⟩ : ∃ bd, bd = (buf.drop y.at_).take nn := ⟨_, rfl⟩
      have hbl : bd.length = nn := by rw [hbd]; simp; omega
      rw [← hbd] at hB2 HP
      clear hbd
      subst hbl
      go_region_with (go_at_call 47; refine (clone_ok _ _ bd (hB2.fr ((Fr.refl [] W).drewN _) (by simp)) (by omega)).mono ?_; rintro e w1 ⟨v1, rfl, o1, f1, a1⟩; have O1 := hid o1; have F1 := hid f1; have T1 := hid a1; have r1 := RdAt.fr (RdAt.drewN R.out _) f1 (by simp); have k1 := blk_cell r1 1; have e1 := blk_free r1 1; have k6 := blk_cell r1 6; have e6 := blk_free r1 6; have k10 := blk_cell r1 10; have e10 := blk_free r1 10; simp [Rd.cells] at k1 k6 k10; obtain ⟨A9, c9', rfl⟩ := OwnR.slice o1; have R1 := hid r1; clear o1 f1 a1 r1)
      all_goals go_wp2
      all_goals go_ret
      all_goals exact body_end EE.out CC.out hI HP rfl (by omega) R1.out O1.out (Fr.trans ((Fr.refl [] W).drewN _) F1.out) T1.out
end Go.Proofs.YtpofpgejhnlfjaaGreatDoor
