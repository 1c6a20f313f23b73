/- The walk of 'unescape'. -/
import Derived.Test.YtpofpgejhnlfjaaGreatDoorHttpA
import Derived.Deep.QuietTactic
import Derived.BigQuiet
set_option linter.unusedVariables false
set_option linter.unusedSimpArgs false
set_option maxRecDepth 100000
namespace Go.Proofs.YtpofpgejhnlfjaaGreatDoor
open Go Go.RowKit Bpm Bph

theorem elU8 : ElemT Tryz.prog 22 5 1 1 (.int .u8 0) := ⟨by kernel_rfl, by kernel_rfl, rfl, by omega⟩

theorem cvOwn {w : World} {v : Value} {l : List UInt8} {e' : TypeId} (h : OwnR w v e' 1 l.length (u8s l)) : (convert 22 9 v).run Tryz.prog w = .ok (.string (bs l)) w :=
  conv_own (e := 5) (by kernel_rfl) (by kernel_rfl) (by kernel_rfl) h
theorem cvRow {H : RO} {w : World} (hG : GoodH H w) {v : Value} {l : List UInt8} (h : BytR H v l) : (convert 22 9 v).run Tryz.prog w = .ok (.string (bs l)) w :=
  conv_row (e := 5) (by kernel_rfl) (by kernel_rfl) (by kernel_rfl) hG h
theorem bits_hex (a b : UInt8) (ha : 0 ≤ hexI a) (hb : 0 ≤ hexI b) : bits BinOp.or IntKind.i64 (hexI a * 16) (hexI b) % 256 = ((hexB a b).toNat : Int) := by
  rw [hexB_toNat a b ha hb]
  have h1 := hexI_range a
  have h2 := hexI_range b
  generalize hexI a = x at *
  generalize hexI b = y at *
  clear a b
  have hx : x = 0 ∨ x = 1 ∨ x = 2 ∨ x = 3 ∨ x = 4 ∨ x = 5 ∨ x = 6 ∨ x = 7 ∨ x = 8 ∨ x = 9 ∨ x = 10 ∨ x = 11 ∨ x = 12 ∨ x = 13 ∨ x = 14 ∨ x = 15 := by omega
  have hy : y = 0 ∨ y = 1 ∨ y = 2 ∨ y = 3 ∨ y = 4 ∨ y = 5 ∨ y = 6 ∨ y = 7 ∨ y = 8 ∨ y = 9 ∨ y = 10 ∨ y = 11 ∨ y = 12 ∨ y = 13 ∨ y = 14 ∨ y = 15 := by omega
  rcases hx with rfl | rfl | rfl | rfl | rfl | rfl | rfl | rfl | rfl | rfl | rfl | rfl | rfl | rfl | rfl | rfl <;>
  rcases hy with rfl | rfl | rfl | rfl | rfl | rfl | rfl | rfl | rfl | rfl | rfl | rfl | rfl | rfl | rfl | rfl <;> decide +kernel

/-- What the loop of 'unescape' holds, its rows and worlds. -/
def UnI (s : ByteArray) (plus : Bool) (w : World) (b i : Value) (wr : World) : Prop :=
  ∃ (k : Nat) (acc : List UInt8), k ≤ s.size ∧ i = .int .i64 k ∧ OwnR wr b 5 1 acc.length (u8s acc) ∧ (∀ g, b.ownBlock = some g → w.heap.size ≤ g) ∧ acc.length ≤ k ∧ Below w.heap.size w wr ∧ unesc plus (tl s) = (unesc plus ((tl s).drop k)).map (acc ++ ·)
theorem unI_next {s : ByteArray} {plus : Bool} {w wr w1 : World} {b b1 : Value} {k : Nat} {acc : List UInt8} (j : Nat) (d : UInt8) (hk : k < j) (hj : j ≤ s.size) (nq : Nat)
    (ho : OwnR w1 b1 5 1 (acc.length + 1) (u8s acc ++ [u8 d])) (hb : ∀ g, b.ownBlock = some g → w.heap.size ≤ g) (hl : acc.length ≤ k) (hB : Below w.heap.size w wr)
    (hg : (wr.drewN nq).grownBy w1 b.ownBlock) (hat : b1.ownBlock = b.ownBlock ∨ ∃ g, b1.ownBlock = some g ∧ (wr.drewN nq).heap.size ≤ g)
    (hu : unesc plus (tl s) = (unesc plus ((tl s).drop k)).map (acc ++ ·)) (hd : unesc plus ((tl s).drop k) = (unesc plus ((tl s).drop j)).map (d :: ·)) (i : Value) (hi : i = .int .i64 j) : UnI s plus w b1 i w1 := by
  have hs := hB.size
  refine ⟨j, acc ++ [d], hj, hi, by simpa [u8s] using ho, ?_, by simp; omega, ?_, ?_⟩
  · rcases hat with e | ⟨g', e, hge⟩
    · rw [e]; exact hb
    · intro g hg; rw [e] at hg; cases hg; simp at hge; omega
  · exact (below_drewN hB nq).grown hg (by simpa using hs) (fun q e => hb q e)
  · rw [hu, hd, Option.map_map]
    congr 1
    funext x
    simp
theorem unI_end {s : ByteArray} {plus : Bool} {k : Nat} {acc : List UInt8} (hk : ¬ k < s.size) (hu : unesc plus (tl s) = (unesc plus ((tl s).drop k)).map (acc ++ ·)) : unescS plus (tl s) = acc ∧ unescB plus (tl s) = true := by
  rw [drop_end s k (by omega)] at hu
  unfold unescS unescB
  rw [hu]; simp [unesc]
theorem unI_no {s : ByteArray} {plus : Bool} {k : Nat} {acc : List UInt8} (hu : unesc plus (tl s) = (unesc plus ((tl s).drop k)).map (acc ++ ·)) (hd : unesc plus ((tl s).drop k) = none) : unescS plus (tl s) = [] ∧ unescB plus (tl s) = false := by
  unfold unescS unescB
  rw [hu, hd]; simp
theorem ret_str_bool {a b : ByteArray} {x y : Bool} (h : a = b) (g : x = y) : Ending.returned (.tuple #[.string a, .bool x]) = .returned (.tuple #[.string b, .bool y]) := by rw [h, g]
theorem bs_nil : bs [] = ⟨#[]⟩ := rfl

set_option maxHeartbeats 2000000 in
theorem unescape_ok (s : ByteArray) (plus : Bool) (w : World) (hs : s.size ≤ 20000) :
    Calls Tryz.prog 41 #[.string s, .bool plus] w fun e w' => e = .returned (.tuple #[.string (bs (unescS plus (tl s))), .bool (unescB plus (tl s))]) ∧ Below w.heap.size w w' := by
  go_enter Tryz.func41, Tryz.ntmps41
  go_wp2
  go_loopw [6,7] (fun b i wr => UnI s plus w b i wr) (fun _ i _ => s.size - (intOf i).toNat)
  case atStart => exact ⟨0, [], Nat.zero_le _, rfl, OwnR.nil _ _ _, by simp [Value.ownBlock], Nat.le_refl _, Below.refl _ _, by simp⟩
  case round =>
    obtain ⟨k, acc, hk, rfl, ho, hb, hl, hB, hu⟩ := hrel
    have HU := hid hu
    clear hu
    by_cases hlt : k < s.size
    · have hdr := drop_get s k hlt
      by_cases hc : s[k] = 37
      · have hcc := beq_u8' s[k] 37 (by omega) (by omega) hc
        by_cases h2 : k + 2 < s.size
        · have hd1 := drop_get s (k+1) (by omega)
          have hd2 := drop_get s (k+2) (by omega)
          have hlt2 : decide ((s.size : Int) ≤ k + 2) = false := by simp; omega
          have h1l : k + 1 < s.size := by omega
          have hra := hexI_range s[k+1]
          have hrb := hexI_range s[k+2]
          have hpc := unesc_pct plus s[k+1] s[k+2] ((tl s).drop (k+3))
          rw [← hd2, ← hd1, ← hc, ← hdr] at hpc
          have HP := hid hpc
          clear hc hdr hd1 hd2 hpc
          by_cases ha : hexI s[k+1] < 0
          · have ha' : decide (hexI s[k+1] < 0) = true := by simpa using ha
            go_wp2_with (first | (go_at_call 74; refine (hex_ok _ _).mono ?_; rintro e w' ⟨rfl, rfl⟩))
            go_ret2
            have hf := unI_no HU.out (by rw [HP.out, if_pos (.inl ha)])
            exact ⟨ret_str_bool (by rw [hf.1]; rfl) hf.2.symm, hB⟩
          · have ha' : decide (hexI s[k+1] < 0) = false := by simp; omega
            by_cases hb0 : hexI s[k+2] < 0
            · have hb' : decide (hexI s[k+2] < 0) = true := by simpa using hb0
              go_wp2_with (first | (go_at_call 74; refine (hex_ok _ _).mono ?_; rintro e w' ⟨rfl, rfl⟩))
              go_ret2
              have hf := unI_no HU.out (by rw [HP.out, if_pos (.inr hb0)])
              exact ⟨ret_str_bool (by rw [hf.1]; rfl) hf.2.symm, hB⟩
            · have hb' : decide (hexI s[k+2] < 0) = false := by simp; omega
              have hbits := bits_hex s[k+1] s[k+2] (by omega) (by omega)
              by_cases hp : isPri (hexB s[k+1] s[k+2]) = true
              · have HD := hid (show unesc plus ((tl s).drop k) = (unesc plus ((tl s).drop (k+3))).map ((hexB s[k+1] s[k+2]) :: ·) by rw [HP.out, if_neg (by omega), if_pos hp])
                clear HP
                go_wp2_with (first | (go_at_call 74; refine (hex_ok _ _).mono ?_; rintro e w' ⟨rfl, rfl⟩))
                go_quiet ((go_at_call 74; exact Calls.quiet_of_same ((hex_ok _ _).mono fun e w' h => ⟨h.1, h.2.symm⟩)))
                go_wp2_with (first | (go_at_call 46; refine (printable_ok _ _).mono ?_; rintro e w' ⟨rfl, rfl⟩) | (at_builtin; refine wp_app1 rfl _ _ _ rfl elU8 (ho.drewN nq) rfl rfl rfl rfl (by omega) (by omega) ?_; intro v' w1 ho1 hg1 hat1))
                exact ⟨unI_next (k+3) _ (by omega) (by omega) nq ho1 hb hl hB hg1 hat1 HU.out HD.out _ (by go_num), by simp [intOf]; omega⟩
              · have hp' : isPri (hexB s[k+1] s[k+2]) = false := by simpa using hp
                have HD := hid (show unesc plus ((tl s).drop k) = none by rw [HP.out, if_neg (by omega), if_neg hp])
                clear HP hp
                go_wp2_with (first | (go_at_call 74; refine (hex_ok _ _).mono ?_; rintro e w' ⟨rfl, rfl⟩))
                go_quiet ((go_at_call 74; exact Calls.quiet_of_same ((hex_ok _ _).mono fun e w' h => ⟨h.1, h.2.symm⟩)))
                go_wp2_with (first | (go_at_call 46; refine (printable_ok _ _).mono ?_; rintro e w' ⟨rfl, rfl⟩) | (at_builtin; refine wp_app1 rfl _ _ _ rfl elU8 (ho.drewN nq) rfl rfl rfl rfl (by omega) (by omega) ?_; intro v' w1 ho1 hg1 hat1))
                go_ret2
                have hf := unI_no HU.out HD.out
                exact ⟨ret_str_bool (by rw [hf.1]; rfl) hf.2.symm, below_drewN hB _⟩
        · have hlt2 : decide ((s.size : Int) ≤ k + 2) = true := by simp; omega
          have HP := hid (show unesc plus ((tl s).drop k) = none by rw [hdr, hc, unesc_pct_short _ _ (by simp [tl_len]; omega)])
          clear hc hdr
          go_wp2_with (first | (go_at_call 74; refine (hex_ok _ _).mono ?_; rintro e w' ⟨rfl, rfl⟩))
          go_ret2
          have hf := unI_no HU.out HP.out
          exact ⟨ret_str_bool (by rw [hf.1]; rfl) hf.2.symm, hB⟩
      · have hcc := beq_u8 s[k] 37 (by omega) (by omega) hc
        by_cases hq : s[k] = 43
        · have hcq := beq_u8' s[k] 43 (by omega) (by omega) hq
          cases plus with
          | true =>
            have hpp := unesc_plain true s[k] 32 ((tl s).drop (k+1)) hc (by simp [hq])
            rw [← hdr, if_pos (by decide)] at hpp
            have HP := hid hpp
            have h32 : ∀ w, Calls Tryz.prog 46 #[.int .u8 32] w fun e w' => e = .returned (.bool true) ∧ w = w' := fun w => printable_ok 32 w
            have H32 := hid h32
            clear hc hdr hq hpp h32
            go_wp2_with (first | (go_at_call 46; refine (H32.out _).mono ?_; rintro e w' ⟨rfl, rfl⟩) | (at_builtin; refine wp_app1 rfl _ _ _ rfl elU8 ho rfl rfl rfl rfl (by omega) (by omega) ?_; intro v' w1 ho1 hg1 hat1))
            exact ⟨unI_next (k+1) 32 (by omega) (by omega) 0 ho1 hb hl hB hg1 hat1 HU.out HP.out _ (by go_num), by simp [intOf]; omega⟩
          | false =>
            have hpp := unesc_plain false s[k] s[k] ((tl s).drop (k+1)) hc (by simp)
            rw [← hdr] at hpp
            have HP := hid hpp
            clear hc hdr hq hpp
            by_cases hp : isPri s[k] = true
            · have HD := hid (show unesc false ((tl s).drop k) = (unesc false ((tl s).drop (k+1))).map (s[k] :: ·) by rw [HP.out, if_pos hp])
              clear HP
              go_wp2_with (first | (go_at_call 46; refine (printable_ok _ _).mono ?_; rintro e w' ⟨rfl, rfl⟩) | (at_builtin; refine wp_app1 rfl _ _ _ rfl elU8 (ho) rfl rfl rfl rfl (by omega) (by omega) ?_; intro v' w1 ho1 hg1 hat1))
              exact ⟨unI_next (k+1) _ (by omega) (by omega) 0 ho1 hb hl hB hg1 hat1 HU.out HD.out _ (by go_num), by simp [intOf]; omega⟩
            · have hp' : isPri s[k] = false := by simpa using hp
              have HD := hid (show unesc false ((tl s).drop k) = none by rw [HP.out, if_neg hp])
              clear HP hp
              go_wp2_with (first | (go_at_call 46; refine (printable_ok _ _).mono ?_; rintro e w' ⟨rfl, rfl⟩) | (at_builtin; refine wp_app1 rfl _ _ _ rfl elU8 (ho) rfl rfl rfl rfl (by omega) (by omega) ?_; intro v' w1 ho1 hg1 hat1))
              go_ret2
              have hf := unI_no HU.out HD.out
              exact ⟨ret_str_bool (by rw [hf.1]; rfl) hf.2.symm, hB⟩
        · have hcq := beq_u8 s[k] 43 (by omega) (by omega) hq
          have hpp := unesc_plain plus s[k] s[k] ((tl s).drop (k+1)) hc (by simp [hq])
          rw [← hdr] at hpp
          have HP := hid hpp
          clear hc hdr hq hpp
          by_cases hp : isPri s[k] = true
          · have HD := hid (show unesc plus ((tl s).drop k) = (unesc plus ((tl s).drop (k+1))).map (s[k] :: ·) by rw [HP.out, if_pos hp])
            clear HP
            go_wp2_with (first | (go_at_call 46; refine (printable_ok _ _).mono ?_; rintro e w' ⟨rfl, rfl⟩) | (at_builtin; refine wp_app1 rfl _ _ _ rfl elU8 (ho) rfl rfl rfl rfl (by omega) (by omega) ?_; intro v' w1 ho1 hg1 hat1))
            exact ⟨unI_next (k+1) _ (by omega) (by omega) 0 ho1 hb hl hB hg1 hat1 HU.out HD.out _ (by go_num), by simp [intOf]; omega⟩
          · have hp' : isPri s[k] = false := by simpa using hp
            have HD := hid (show unesc plus ((tl s).drop k) = none by rw [HP.out, if_neg hp])
            clear HP hp
            go_wp2_with (first | (go_at_call 46; refine (printable_ok _ _).mono ?_; rintro e w' ⟨rfl, rfl⟩) | (at_builtin; refine wp_app1 rfl _ _ _ rfl elU8 (ho) rfl rfl rfl rfl (by omega) (by omega) ?_; intro v' w1 ho1 hg1 hat1))
            go_ret2
            have hf := unI_no HU.out HD.out
            exact ⟨ret_str_bool (by rw [hf.1]; rfl) hf.2.symm, hB⟩
    · have hcv := cvOwn ho
      go_wp2
      go_ret2
      have hf := unI_end hlt HU.out
      exact ⟨ret_str_bool (by rw [hf.1]) hf.2.symm, hB⟩
end Go.Proofs.YtpofpgejhnlfjaaGreatDoor
