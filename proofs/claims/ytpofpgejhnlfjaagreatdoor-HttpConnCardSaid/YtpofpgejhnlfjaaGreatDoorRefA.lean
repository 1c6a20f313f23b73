/- The walks of the reference's small functions (layer 27). -/
import Derived.Test.YtpofpgejhnlfjaaGreatDoorHttpB
import Derived.Test.YtpofpgejhnlfjaaGreatDoorMore
import Derived.Test.YtpofpgejhnlfjaaGreatDoorRefSpec
set_option linter.unusedVariables false
set_option linter.unusedSimpArgs false
set_option maxRecDepth 100000
namespace Go.Proofs.YtpofpgejhnlfjaaGreatDoor
open Go Go.RowKit Bpm Bph

theorem rplain_ok (s : ByteArray) (f : Nat) (p : UInt8 → Bool) (hf : f ≤ 33) (hp : ∀ c, p c = (decide (f ≤ c.toNat) && decide (c.toNat ≤ 126))) (w : World) (hs : s.size ≤ maxLen) :
    Calls Tryz.prog 43 #[.string s, .int .u8 f] w fun e w' => e = .returned (.bool ((tl s).all p)) ∧ w = w' := by
  unfold maxLen at hs
  have HP := hid hp
  clear hp
  go_enter Tryz.func43, Tryz.ntmps43
  go_wp2
  go_loop [5] (fun i => ∃ k : Nat, k ≤ s.size ∧ i = .int .i64 k ∧ ((tl s).take k).all p = true) (fun i => s.size - (intOf i).toNat)
  case atStart => exact ⟨0, Nat.zero_le _, rfl, rfl⟩
  case round =>
    obtain ⟨k, hk, rfl, ha⟩ := hrel
    have HA := hid ha
    clear ha
    by_cases hlt : k < s.size
    · have H := hid (all_succ s p k hlt)
      by_cases h1 : f ≤ s[k].toNat
      · by_cases h2 : s[k].toNat ≤ 126
        · go_wp2
          go_round
          case rel => exact ⟨k + 1, by omega, by go_num, by rw [H.out, HA.out, HP.out]; simp; omega⟩
          case measure => simp [intOf]; omega
        · go_wp2
          go_ret
          exact ⟨ret_bool (all_no s _ k hlt (by rw [HP.out]; simp; omega)), rfl⟩
      · go_wp2
        go_ret
        exact ⟨ret_bool (all_no s _ k hlt (by rw [HP.out]; simp; omega)), rfl⟩
    · go_wp2
      go_ret
      exact ⟨ret_bool (all_yes s _ k hlt HA.out), rfl⟩
theorem rplain_vis (s : ByteArray) (w : World) (hs : s.size ≤ maxLen) : Calls Tryz.prog 43 #[.string s, .int .u8 33] w fun e w' => e = .returned (.bool ((tl s).all isVis)) ∧ w = w' := rplain_ok s 33 isVis (by omega) (fun _ => rfl) w hs
theorem rplain_pri (s : ByteArray) (w : World) (hs : s.size ≤ maxLen) : Calls Tryz.prog 43 #[.string s, .int .u8 32] w fun e w' => e = .returned (.bool ((tl s).all isPri)) ∧ w = w' := rplain_ok s 32 isPri (by omega) (fun _ => rfl) w hs
theorem rhex_ok (c : UInt8) (w : World) : Calls Tryz.prog 76 #[.int .u8 c.toNat] w fun e w' => e = .returned (.int .i64 (hexI c)) ∧ w = w' := by
  have hc := c.toNat_lt
  go_enter Tryz.func76, Tryz.ntmps76
  go_wp2
  all_goals
    go_ret
    refine ⟨ret_int ?_, rfl⟩
    unfold hexI isDig
    (repeat' split)
    all_goals (first | omega | (simp at *; omega) | (exfalso; simp at *; omega))
theorem rallowed_ok (s : ByteArray) (w : World) (hs : s.size ≤ maxLen) :
    Calls Tryz.prog 96 #[.string s] w fun e w' => e = .returned (.bool ((tl s).all isLin)) ∧ w = w' := by
  unfold maxLen at hs
  go_enter Tryz.func96, Tryz.ntmps96
  go_wp2
  go_loop [3] (fun i => ∃ k : Nat, k ≤ s.size ∧ i = .int .i64 k ∧ ((tl s).take k).all isLin = true) (fun i => s.size - (intOf i).toNat)
  case atStart => exact ⟨0, Nat.zero_le _, rfl, rfl⟩
  case round =>
    obtain ⟨k, hk, rfl, ha⟩ := hrel
    have HA := hid ha
    clear ha
    by_cases hlt : k < s.size
    · have H := hid (all_succ s isLin k hlt)
      have h9 : (s[k].toNat : Int) = 9 ∨ ((s[k].toNat : Int) == 9) = false := by by_cases h : (s[k].toNat : Int) = 9 <;> simp [h]
      have HL := hid (show isLin s[k] = (decide (32 ≤ s[k].toNat) && decide (s[k].toNat ≤ 126) || decide (s[k].toNat = 9)) from rfl)
      by_cases h1 : 32 ≤ s[k].toNat
      · by_cases h2 : s[k].toNat ≤ 126
        · clear h9
          go_wp2
          go_round
          case rel => exact ⟨k + 1, by omega, by go_num, by rw [H.out, HA.out, HL.out]; simp; omega⟩
          case measure => simp [intOf]; omega
        · have h9 : ((s[k].toNat : Int) != 9) = true := by simp; omega
          go_wp2
          go_ret
          exact ⟨ret_bool (all_no s _ k hlt (by rw [HL.out]; simp; omega)), rfl⟩
      · rcases h9 with h9 | h9
        · have h9' : ((s[k].toNat : Int) == 9) = true := by simpa using h9
          have h9n : s[k].toNat = 9 := by omega
          have h9' : ((s[k].toNat : Int) != 9) = false := by simp; omega
          have HN := hid h9n
          clear h9 h9n
          go_wp2
          go_round
          case rel => exact ⟨k + 1, by omega, by go_num, by rw [H.out, HA.out, HL.out, HN.out]; rfl⟩
          case measure => simp [intOf]; omega
        · have HN := hid (show ¬ s[k].toNat = 9 by simp at h9; omega)
          have h9 : ((s[k].toNat : Int) != 9) = true := by have := HN.out; simp; omega
          go_wp2
          go_ret
          exact ⟨ret_bool (all_no s _ k hlt (by rw [HL.out]; have := HN.out; simp; omega)), rfl⟩
    · go_wp2
      go_ret
      exact ⟨ret_bool (all_yes s _ k hlt HA.out), rfl⟩

theorem idx_at {c : UInt8} {l : List UInt8} {k : Nat} (h : c ∉ l.take k) (hk : l[k]? = some c) : idx c l = some k := by
  have hlt := (List.getElem?_eq_some_iff.1 hk).1
  have e : l = l.take k ++ c :: l.drop (k + 1) := by
    conv => lhs; rw [← List.take_append_drop k l, List.drop_eq_getElem_cons hlt, (List.getElem?_eq_some_iff.1 hk).2]
  rw [e, idx_append (by simpa using h), idx, if_pos rfl]
  simp; omega
theorem idx_all {c : UInt8} {l : List UInt8} (h : c ∉ l) : idx c l = none := by
  cases e : idx c l with
  | none => rfl
  | some i => exact absurd (List.mem_of_getElem? (idx_some e).2.1) h
def CutPost (w : World) (c : UInt8) (l : List UInt8) (e : Ending) (w' : World) : Prop :=
  e = .returned (.tuple #[.string (bs (cutB c l).1), .string (bs (cutB c l).2.1), .bool (cutB c l).2.2]) ∧ ∃ q, w' = w.drewN q
theorem cut_yes {w : World} {c : UInt8} {s : ByteArray} {k q : Nat} (h : c ∉ (tl s).take k) (hk : k < s.size) (hc : s[k] = c) : CutPost w c (tl s) (.returned (.tuple #[.string (s.extract 0 k), .string (s.extract (k + 1) s.size), .bool true])) (w.drewN q) := by
  refine ⟨?_, q, rfl⟩
  unfold cutB
  rw [idx_at h (by rw [tl_get? s k hk, hc])]
  simp only
  rw [← tl_take, ← tl_drop, bs_tl, bs_tl]
theorem cut_no {w : World} {c : UInt8} {s : ByteArray} {k : Nat} (h : c ∉ (tl s).take k) (hk : ¬ k < s.size) : CutPost w c (tl s) (.returned (.tuple #[.string s, .string ⟨#[]⟩, .bool false])) w := by
  refine ⟨?_, 0, rfl⟩
  rw [List.take_of_length_le (by rw [tl_len]; omega)] at h
  unfold cutB
  rw [idx_all h]
  rfl
theorem rcut_ok (s : ByteArray) (c : UInt8) (w : World) (hs : s.size ≤ maxLen) :
    Calls Tryz.prog 44 #[.string s, .int .u8 c.toNat] w (CutPost w c (tl s)) := by
  unfold maxLen at hs
  go_enter Tryz.func44, Tryz.ntmps44
  go_wp2
  go_loop [7] (fun i => ∃ k : Nat, k ≤ s.size ∧ i = .int .i64 k ∧ c ∉ (tl s).take k) (fun i => s.size - (intOf i).toNat)
  case atStart => exact ⟨0, Nat.zero_le _, rfl, by simp⟩
  case round =>
    obtain ⟨k, hk, rfl, ha⟩ := hrel
    have HA := hid ha
    clear ha
    by_cases hlt : k < s.size
    · by_cases hc : s[k] = c
      · have hcc : ((s[k].toNat : Int) == (c.toNat : Int)) = true := by rw [hc]; simp
        have hcn : (s[k].toNat == c.toNat) = true := by rw [hc]; simp
        have HC := hid hc
        clear hc
        have hb1 : (0 : Int) ≤ k := by omega
        have hb2 : (k : Int) < s.size := by omega
        have e1 : IntKind.i64.wrap ((k : Int) + 1) = (k : Int) + 1 := IntWalk.i64_in _ (by omega)
        have e2 : (0 : Int) ≤ (k : Int) + 1 := by omega
        have e3 : ((k : Int) + 1).toNat = k + 1 := by omega
        go_wp2
        go_quiet (fail)
        go_wp2
        exact bodyPost_ret (v := .tuple #[.string (s.extract 0 k), .string (s.extract (k + 1) s.size), .bool true]) (by simp [results, Tryz.results44, go_sem]) rfl (cut_yes HA.out hlt HC.out)
      · have hcc : ((s[k].toNat : Int) == (c.toNat : Int)) = false := by rw [beq_eq_false_iff_ne]; intro e; exact hc (UInt8.toNat_inj.1 (by omega))
        have HC := hid hc
        clear hc
        go_wp2
        go_round
        case rel => exact ⟨k + 1, by omega, by go_num, by rw [take_succ_get s k hlt]; simp; exact ⟨HA.out, fun e => HC.out e.symm⟩⟩
        case measure => simp [intOf]; omega
    · go_wp2
      exact bodyPost_ret (v := .tuple #[.string s, .string ⟨#[]⟩, .bool false]) (by simp [results, Tryz.results44, go_sem]) rfl (cut_no HA.out hlt)
end Go.Proofs.YtpofpgejhnlfjaaGreatDoor
