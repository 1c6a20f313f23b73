/- The walks of the reference's 'plainly' and 'Target'. -/
import Derived.Test.YtpofpgejhnlfjaaGreatDoorRefB
set_option linter.unusedVariables false
set_option linter.unusedSimpArgs false
set_option maxRecDepth 100000
namespace Go.Proofs.YtpofpgejhnlfjaaGreatDoor
open Go Go.RowKit Bpm Bph

/-- What the loop of 'plainly' holds. -/
def RnI (s : ByteArray) (plus : Bool) (w : World) (b i : Value) (wr : World) : Prop :=
  ∃ (k : Nat) (acc : List UInt8), k ≤ s.size ∧ i = .int .i64 k ∧ OwnR wr b 5 1 acc.length (u8s acc) ∧ (∀ g, b.ownBlock = some g → w.heap.size ≤ g) ∧ acc.length ≤ k ∧ Fr [] w wr ∧ raw plus (tl s) = (raw plus ((tl s).drop k)).map (acc ++ ·)
theorem rnI_next {s : ByteArray} {plus : Bool} {w wr w1 : World} {b b1 : Value} {k : Nat} {acc : List UInt8} (j : Nat) (d : UInt8) (hk : k < j) (hj : j ≤ s.size) (nq : Nat)
    (ho : OwnR w1 b1 5 1 (acc.length + 1) (u8s acc ++ [u8 d])) (hb : ∀ g, b.ownBlock = some g → w.heap.size ≤ g) (hl : acc.length ≤ k) (hB : Fr [] w wr)
    (hg : (wr.drewN nq).grownBy w1 b.ownBlock) (hat : b1.ownBlock = b.ownBlock ∨ ∃ g, b1.ownBlock = some g ∧ (wr.drewN nq).heap.size ≤ g)
    (hu : raw plus (tl s) = (raw plus ((tl s).drop k)).map (acc ++ ·)) (hd : raw plus ((tl s).drop k) = (raw plus ((tl s).drop j)).map (d :: ·)) (i : Value) (hi : i = .int .i64 j) : RnI s plus w b1 i w1 := by
  have hs := hB.size
  refine ⟨j, acc ++ [d], hj, hi, by simpa [u8s] using ho, ?_, by simp; omega, ?_, ?_⟩
  · rcases hat with e | ⟨g', e, hge⟩
    · rw [e]; exact hb
    · intro g hg; rw [e] at hg; cases hg; simp at hge; omega
  · exact (hB.drewN nq).then (Fr.of_grown hg) (fun q e => .inr (hb q (by simpa using e)))
  · rw [hu, hd, Option.map_map]
    congr 1
    funext x
    simp
theorem rnI_no {s : ByteArray} {plus : Bool} {k : Nat} {acc : List UInt8} (hu : raw plus (tl s) = (raw plus ((tl s).drop k)).map (acc ++ ·)) (hd : raw plus ((tl s).drop k) = none) : unescB plus (tl s) = false :=
  unesc_of_none (by rw [hu, hd]; rfl)
theorem rnI_end {s : ByteArray} {plus : Bool} {k : Nat} {acc : List UInt8} (hk : ¬ k < s.size) (hu : raw plus (tl s) = (raw plus ((tl s).drop k)).map (acc ++ ·)) : raw plus (tl s) = some acc := by
  rw [hu, drop_end s k (by omega)]; simp [raw]
def PlPost (w : World) (plus : Bool) (l : List UInt8) (e : Ending) (w' : World) : Prop :=
  ∃ t : List UInt8, e = .returned (.tuple #[.string (bs t), .bool (unescB plus l)]) ∧ (unescB plus l = true → t = unescS plus l) ∧ Fr [] w w'
theorem pl_no {w w' : World} {plus : Bool} {l : List UInt8} (h : unescB plus l = false) (f : Fr [] w w') : PlPost w plus l (.returned (.tuple #[.string ⟨#[]⟩, .bool false])) w' :=
  ⟨[], by rw [h]; rfl, (fun x => by rw [h] at x; cases x), f⟩
theorem pl_yes {w w' : World} {plus : Bool} {l acc : List UInt8} (h : raw plus l = some acc) (f : Fr [] w w') : PlPost w plus l (.returned (.tuple #[.string (bs acc), .bool (acc.all isPri)])) w' := by
  obtain ⟨h1, h2⟩ := unesc_of_raw h
  exact ⟨acc, by rw [h1], fun x => (h2 (by rw [← h1]; exact x)).symm, f⟩
theorem hex_sum (a b : UInt8) (ha : 0 ≤ hexI a) (hb : 0 ≤ hexI b) : (16 * hexI a + hexI b) % 256 = ((hexB a b).toNat : Int) := by
  rw [hexB_toNat a b ha hb]
  have h1 := hexI_range a
  have h2 := hexI_range b
  omega
set_option maxHeartbeats 2000000 in
theorem rplainly_ok (s : ByteArray) (plus : Bool) (w : World) (hs : s.size ≤ 20000) :
    Calls Tryz.prog 45 #[.string s, .bool plus] w (PlPost w plus (tl s)) := by
  go_enter Tryz.func45, Tryz.ntmps45
  go_wp2
  go_loopw [6, 7] (fun b i wr => RnI s plus w b i wr) (fun _ i _ => s.size - (intOf i).toNat)
  case atStart => exact ⟨0, [], Nat.zero_le _, rfl, OwnR.nil _ _ _, by simp [Value.ownBlock], Nat.le_refl _, Fr.refl _ _, by simp⟩
  case round =>
    obtain ⟨k, acc, hk, rfl, ho, hb, hl, hB, hu⟩ := hrel
    have HU := hid hu
    have HB := hid hB
    clear hu hB
    by_cases hlt : k < s.size
    · have hdr := drop_get s k hlt
      by_cases hc : s[k] = 37
      · have hcc := beq_u8' s[k] 37 (by omega) (by omega) hc
        have hc4 := beq_u8 s[k] 43 (by omega) (by omega) (by rw [hc]; decide)
        by_cases h2 : k + 2 < s.size
        · have hd1 := drop_get s (k+1) (by omega)
          have hd2 := drop_get s (k+2) (by omega)
          have hlt2 : decide ((s.size : Int) ≤ k + 2) = false := by simp; omega
          have h1l : k + 1 < s.size := by omega
          have hra := hexI_range s[k+1]
          have hrb := hexI_range s[k+2]
          have hpc := raw_pct plus s[k+1] s[k+2] ((tl s).drop (k+3))
          rw [← hd2, ← hd1, ← hc, ← hdr] at hpc
          have HP := hid hpc
          clear hc hdr hd1 hd2 hpc
          by_cases ha : hexI s[k+1] < 0
          · have ha' : decide (hexI s[k+1] < 0) = true := by simpa using ha
            go_wp2_with (first | (go_at_call 76; refine (rhex_ok _ _).mono ?_; rintro e w' ⟨rfl, rfl⟩))
            go_ret2
            exact pl_no (rnI_no HU.out (by rw [HP.out, if_pos (.inl ha)])) HB.out
          · have ha' : decide (hexI s[k+1] < 0) = false := by simp; omega
            by_cases hb0 : hexI s[k+2] < 0
            · have hb' : decide (hexI s[k+2] < 0) = true := by simpa using hb0
              go_wp2_with (first | (go_at_call 76; refine (rhex_ok _ _).mono ?_; rintro e w' ⟨rfl, rfl⟩))
              go_ret2
              exact pl_no (rnI_no HU.out (by rw [HP.out, if_pos (.inr hb0)])) HB.out
            · have hb' : decide (hexI s[k+2] < 0) = false := by simp; omega
              have hsum := hid (show Value.int .u8 (16 * hexI s[k+1] + hexI s[k+2]) = Bpm.u8 (hexB s[k+1] s[k+2]) by unfold Bpm.u8; rw [hexB_toNat _ _ (by omega) (by omega)])
              have HD := hid (show raw plus ((tl s).drop k) = (raw plus ((tl s).drop (k+3))).map ((hexB s[k+1] s[k+2]) :: ·) by rw [HP.out, if_neg (by omega)])
              clear HP
              go_wp2_with (first | (go_at_call 76; refine (rhex_ok _ _).mono ?_; rintro e w' ⟨rfl, rfl⟩))
              go_quiet ((go_at_call 76; exact Calls.quiet_of_same ((rhex_ok _ _).mono fun e w' h => ⟨h.1, h.2.symm⟩)))
              go_wp2_with (first | (at_builtin; refine wp_app1 rfl _ _ _ rfl elU8 (ho.drewN nq) rfl rfl rfl rfl (by omega) (by omega) ?_; intro v' w1 ho1 hg1 hat1))
              rw [hsum.out] at ho1
              exact ⟨rnI_next (k+3) _ (by omega) (by omega) nq ho1 hb hl HB.out hg1 hat1 HU.out HD.out _ (by go_num), by simp [intOf]; omega⟩
        · have hlt2 : decide ((s.size : Int) ≤ k + 2) = true := by simp; omega
          have HP := hid (show raw plus ((tl s).drop k) = none by rw [hdr, hc, raw_short _ _ (by simp [tl_len]; omega)])
          clear hc hdr
          go_wp2
          go_ret2
          exact pl_no (rnI_no HU.out HP.out) HB.out
      · have hcc := beq_u8 s[k] 37 (by omega) (by omega) hc
        by_cases hq : s[k] = 43
        · have hcq := beq_u8' s[k] 43 (by omega) (by omega) hq
          cases plus with
          | true =>
            have hpp := raw_plain true s[k] 32 ((tl s).drop (k+1)) hc (by simp [hq])
            rw [← hdr] at hpp
            have HP := hid hpp
            clear hc hdr hq hpp
            go_wp2_with (first | (at_builtin; refine wp_app1 rfl _ _ _ rfl elU8 ho rfl rfl rfl rfl (by omega) (by omega) ?_; intro v' w1 ho1 hg1 hat1))
            exact ⟨rnI_next (k+1) 32 (by omega) (by omega) 0 ho1 hb hl HB.out hg1 hat1 HU.out HP.out _ (by go_num), by simp [intOf]; omega⟩
          | false =>
            have hpp := raw_plain false s[k] s[k] ((tl s).drop (k+1)) hc (by simp)
            rw [← hdr] at hpp
            have HP := hid hpp
            clear hc hdr hq hpp
            go_wp2_with (first | (at_builtin; refine wp_app1 rfl _ _ _ rfl elU8 ho rfl rfl rfl rfl (by omega) (by omega) ?_; intro v' w1 ho1 hg1 hat1))
            exact ⟨rnI_next (k+1) _ (by omega) (by omega) 0 ho1 hb hl HB.out hg1 hat1 HU.out HP.out _ (by go_num), by simp [intOf]; omega⟩
        · have hcq := beq_u8 s[k] 43 (by omega) (by omega) hq
          have hpp := raw_plain plus s[k] s[k] ((tl s).drop (k+1)) hc (by simp [hq])
          rw [← hdr] at hpp
          have HP := hid hpp
          clear hc hdr hq hpp
          go_wp2_with (first | (at_builtin; refine wp_app1 rfl _ _ _ rfl elU8 ho rfl rfl rfl rfl (by omega) (by omega) ?_; intro v' w1 ho1 hg1 hat1))
          exact ⟨rnI_next (k+1) _ (by omega) (by omega) 0 ho1 hb hl HB.out hg1 hat1 HU.out HP.out _ (by go_num), by simp [intOf]; omega⟩
    · have hcv := cvOwn ho
      have hcv2 := fun n => cvOwn (ho.drewN n)
      have hmx : (bs acc).size ≤ maxLen := by rw [size_bs]; unfold maxLen; omega
      go_wp2
      go_quiet ((go_at_call 43; exact Calls.quiet_of_same ((rplain_pri _ _ hmx).mono fun e w' h => ⟨h.1, h.2.symm⟩)))
      go_wp2
      go_ret2
      rw [tl_bs]
      exact pl_yes (rnI_end hlt HU.out) (HB.out.drewN _)
end Go.Proofs.YtpofpgejhnlfjaaGreatDoor
