/- The walks of layer 27's small functions. -/
import Derived.Test.YtpofpgejhnlfjaaGreatDoorProg
import Derived.Test.YtpofpgejhnlfjaaGreatDoorMem
import Derived.Test.YtpofpgejhnlfjaaGreatDoorHttpSpec
set_option linter.unusedVariables false
set_option linter.unusedSimpArgs false
set_option maxRecDepth 100000
namespace Go.Proofs.YtpofpgejhnlfjaaGreatDoor
open Go Go.RowKit Bpm Bph

/-- A function of one byte that tells p. -/
def Pred (K : FuncId) (p : UInt8 → Bool) : Prop := ∀ (c : UInt8) (w : World), Calls Tryz.prog K #[.int .u8 c.toNat] w fun e w' => e = .returned (.bool (p c)) ∧ w = w'
theorem ret_bool {a b : Bool} (h : a = b) : Ending.returned (.bool a) = .returned (.bool b) := by rw [h]
theorem ret_int {k : IntKind} {a b : Int} (h : a = b) : Ending.returned (.int k a) = .returned (.int k b) := by rw [h]

theorem isLetter_ok : Pred 82 isLet := by
  intro c w
  have hc := c.toNat_lt
  go_enter Tryz.func82, Tryz.ntmps82
  go_wp2
  all_goals
    go_ret
    refine ⟨ret_bool ?_, rfl⟩
    rw [Bool.eq_iff_iff]; simp [isLet, isLow, isUp]; omega
theorem isDigit_ok : Pred 78 isDig := by
  intro c w
  have hc := c.toNat_lt
  go_enter Tryz.func78, Tryz.ntmps78
  go_wp2
  all_goals
    go_ret
    refine ⟨ret_bool ?_, rfl⟩
    rw [Bool.eq_iff_iff]; simp [isDig]; omega
theorem printable_ok : Pred 46 isPri := by
  intro c w
  have hc := c.toNat_lt
  go_enter Tryz.func46, Tryz.ntmps46
  go_wp2
  all_goals
    go_ret
    refine ⟨ret_bool ?_, rfl⟩
    rw [Bool.eq_iff_iff]; simp [isPri]; omega
theorem target1_ok : Pred 39 isVis := by
  intro c w
  have hc := c.toNat_lt
  go_enter Tryz.func39, Tryz.ntmps39
  go_wp2
  all_goals
    go_ret
    refine ⟨ret_bool ?_, rfl⟩
    rw [Bool.eq_iff_iff]; simp [isVis]; omega
theorem start1_ok : Pred 65 isUp := by
  intro c w
  have hc := c.toNat_lt
  go_enter Tryz.func65, Tryz.ntmps65
  go_wp2
  all_goals
    go_ret
    refine ⟨ret_bool ?_, rfl⟩
    rw [Bool.eq_iff_iff]; simp [isUp]; omega
theorem line1_ok : Pred 89 isLin := by
  intro c w
  have hc := c.toNat_lt
  go_enter Tryz.func89, Tryz.ntmps89
  go_wp2
  all_goals
    go_ret
    refine ⟨ret_bool ?_, rfl⟩
    rw [Bool.eq_iff_iff]; simp [isLin, isPri]; omega
theorem header1_ok : Pred 92 isNam := by
  intro c w
  have hc := c.toNat_lt
  go_enter Tryz.func92, Tryz.ntmps92
  go_wp2
  all_goals
    go_ret
    refine ⟨ret_bool ?_, rfl⟩
    rw [Bool.eq_iff_iff]; simp [isNam, isLet, isLow, isUp, isDig]; omega
theorem hex_ok (c : UInt8) (w : World) : Calls Tryz.prog 74 #[.int .u8 c.toNat] w fun e w' => e = .returned (.int .i64 (hexI c)) ∧ w = w' := by
  have hc := c.toNat_lt
  go_enter Tryz.func74, Tryz.ntmps74
  go_wp2
  all_goals
    go_ret
    refine ⟨ret_int ?_, rfl⟩
    unfold hexI isDig
    (repeat' split)
    all_goals (first | omega | (simp at *; omega) | (exfalso; simp at *; omega))

/-- 'all', at each function that it is called with. -/
theorem all_succ (s : ByteArray) (p : UInt8 → Bool) (k : Nat) (h : k < s.size) : ((tl s).take (k + 1)).all p = (((tl s).take k).all p && p s[k]) := by
  rw [take_succ_get s k h, List.all_append]; simp
theorem all_no (s : ByteArray) (p : UInt8 → Bool) (k : Nat) (h : k < s.size) (hp : (!p s[k]) = true) : false = (tl s).all p := by
  rw [eq_comm, List.all_eq_false]
  exact ⟨s[k], by rw [← tl_get s k h]; exact List.getElem_mem _, by simpa using hp⟩
theorem all_yes (s : ByteArray) (p : UInt8 → Bool) (k : Nat) (h : ¬ k < s.size) (ha : ((tl s).take k).all p = true) : true = (tl s).all p := by
  rw [List.take_of_length_le (by rw [tl_len]; omega)] at ha
  exact ha.symm
theorem all_isVis (s : ByteArray) (w : World) (hs : s.size ≤ maxLen) :
    Calls Tryz.prog 38 #[.string s, .func (.func 39) #[] #[]] w fun e w' => e = .returned (.bool ((tl s).all isVis)) ∧ w = w' := by
  unfold maxLen at hs
  go_enter Tryz.func38, Tryz.ntmps38
  go_wp2
  go_loop [5, 8] (fun _ i => ∃ k : Nat, k ≤ s.size ∧ i = .int .i64 k ∧ ((tl s).take k).all isVis = true) (fun _ i => s.size - (intOf i).toNat)
  case atStart => exact ⟨0, Nat.zero_le _, rfl, rfl⟩
  case round =>
    obtain ⟨k, hk, rfl, ha⟩ := hrel
    have HA := hid ha
    clear ha
    by_cases hlt : k < s.size
    · have H := hid (all_succ s isVis k hlt)
      go_wp2_with (go_at_call 39; refine (target1_ok _ _).mono ?_; rintro e w' ⟨rfl, rfl⟩)
      · have h : (!isVis s[k]) = true := by assumption
        go_ret
        exact ⟨ret_bool (all_no s _ k hlt h), rfl⟩
      · have h : (!isVis s[k]) = false := by assumption
        go_round
        case rel => exact ⟨k + 1, by omega, by go_num, by rw [H.out, HA.out]; simpa using h⟩
        case measure => simp [intOf]; omega
    · go_wp2
      go_ret
      exact ⟨ret_bool (all_yes s _ k hlt HA.out), rfl⟩
theorem all_isUp (s : ByteArray) (w : World) (hs : s.size ≤ maxLen) :
    Calls Tryz.prog 38 #[.string s, .func (.func 65) #[] #[]] w fun e w' => e = .returned (.bool ((tl s).all isUp)) ∧ w = w' := by
  unfold maxLen at hs
  go_enter Tryz.func38, Tryz.ntmps38
  go_wp2
  go_loop [5, 8] (fun _ i => ∃ k : Nat, k ≤ s.size ∧ i = .int .i64 k ∧ ((tl s).take k).all isUp = true) (fun _ i => s.size - (intOf i).toNat)
  case atStart => exact ⟨0, Nat.zero_le _, rfl, rfl⟩
  case round =>
    obtain ⟨k, hk, rfl, ha⟩ := hrel
    have HA := hid ha
    clear ha
    by_cases hlt : k < s.size
    · have H := hid (all_succ s isUp k hlt)
      go_wp2_with (go_at_call 65; refine (start1_ok _ _).mono ?_; rintro e w' ⟨rfl, rfl⟩)
      · have h : (!isUp s[k]) = true := by assumption
        go_ret
        exact ⟨ret_bool (all_no s _ k hlt h), rfl⟩
      · have h : (!isUp s[k]) = false := by assumption
        go_round
        case rel => exact ⟨k + 1, by omega, by go_num, by rw [H.out, HA.out]; simpa using h⟩
        case measure => simp [intOf]; omega
    · go_wp2
      go_ret
      exact ⟨ret_bool (all_yes s _ k hlt HA.out), rfl⟩
theorem all_isLin (s : ByteArray) (w : World) (hs : s.size ≤ maxLen) :
    Calls Tryz.prog 38 #[.string s, .func (.func 89) #[] #[]] w fun e w' => e = .returned (.bool ((tl s).all isLin)) ∧ w = w' := by
  unfold maxLen at hs
  go_enter Tryz.func38, Tryz.ntmps38
  go_wp2
  go_loop [5, 8] (fun _ i => ∃ k : Nat, k ≤ s.size ∧ i = .int .i64 k ∧ ((tl s).take k).all isLin = true) (fun _ i => s.size - (intOf i).toNat)
  case atStart => exact ⟨0, Nat.zero_le _, rfl, rfl⟩
  case round =>
    obtain ⟨k, hk, rfl, ha⟩ := hrel
    have HA := hid ha
    clear ha
    by_cases hlt : k < s.size
    · have H := hid (all_succ s isLin k hlt)
      go_wp2_with (go_at_call 89; refine (line1_ok _ _).mono ?_; rintro e w' ⟨rfl, rfl⟩)
      · have h : (!isLin s[k]) = true := by assumption
        go_ret
        exact ⟨ret_bool (all_no s _ k hlt h), rfl⟩
      · have h : (!isLin s[k]) = false := by assumption
        go_round
        case rel => exact ⟨k + 1, by omega, by go_num, by rw [H.out, HA.out]; simpa using h⟩
        case measure => simp [intOf]; omega
    · go_wp2
      go_ret
      exact ⟨ret_bool (all_yes s _ k hlt HA.out), rfl⟩
theorem all_isNam (s : ByteArray) (w : World) (hs : s.size ≤ maxLen) :
    Calls Tryz.prog 38 #[.string s, .func (.func 92) #[] #[]] w fun e w' => e = .returned (.bool ((tl s).all isNam)) ∧ w = w' := by
  unfold maxLen at hs
  go_enter Tryz.func38, Tryz.ntmps38
  go_wp2
  go_loop [5, 8] (fun _ i => ∃ k : Nat, k ≤ s.size ∧ i = .int .i64 k ∧ ((tl s).take k).all isNam = true) (fun _ i => s.size - (intOf i).toNat)
  case atStart => exact ⟨0, Nat.zero_le _, rfl, rfl⟩
  case round =>
    obtain ⟨k, hk, rfl, ha⟩ := hrel
    have HA := hid ha
    clear ha
    by_cases hlt : k < s.size
    · have H := hid (all_succ s isNam k hlt)
      go_wp2_with (go_at_call 92; refine (header1_ok _ _).mono ?_; rintro e w' ⟨rfl, rfl⟩)
      · have h : (!isNam s[k]) = true := by assumption
        go_ret
        exact ⟨ret_bool (all_no s _ k hlt h), rfl⟩
      · have h : (!isNam s[k]) = false := by assumption
        go_round
        case rel => exact ⟨k + 1, by omega, by go_num, by rw [H.out, HA.out]; simpa using h⟩
        case measure => simp [intOf]; omega
    · go_wp2
      go_ret
      exact ⟨ret_bool (all_yes s _ k hlt HA.out), rfl⟩
theorem all_isDig (s : ByteArray) (w : World) (hs : s.size ≤ maxLen) :
    Calls Tryz.prog 38 #[.string s, .func (.func 78) #[] #[]] w fun e w' => e = .returned (.bool ((tl s).all isDig)) ∧ w = w' := by
  unfold maxLen at hs
  go_enter Tryz.func38, Tryz.ntmps38
  go_wp2
  go_loop [5, 8] (fun _ i => ∃ k : Nat, k ≤ s.size ∧ i = .int .i64 k ∧ ((tl s).take k).all isDig = true) (fun _ i => s.size - (intOf i).toNat)
  case atStart => exact ⟨0, Nat.zero_le _, rfl, rfl⟩
  case round =>
    obtain ⟨k, hk, rfl, ha⟩ := hrel
    have HA := hid ha
    clear ha
    by_cases hlt : k < s.size
    · have H := hid (all_succ s isDig k hlt)
      go_wp2_with (go_at_call 78; refine (isDigit_ok _ _).mono ?_; rintro e w' ⟨rfl, rfl⟩)
      · have h : (!isDig s[k]) = true := by assumption
        go_ret
        exact ⟨ret_bool (all_no s _ k hlt h), rfl⟩
      · have h : (!isDig s[k]) = false := by assumption
        go_round
        case rel => exact ⟨k + 1, by omega, by go_num, by rw [H.out, HA.out]; simpa using h⟩
        case measure => simp [intOf]; omega
    · go_wp2
      go_ret
      exact ⟨ret_bool (all_yes s _ k hlt HA.out), rfl⟩
theorem all_isPri (s : ByteArray) (w : World) (hs : s.size ≤ maxLen) :
    Calls Tryz.prog 38 #[.string s, .func (.func 46) #[] #[]] w fun e w' => e = .returned (.bool ((tl s).all isPri)) ∧ w = w' := by
  unfold maxLen at hs
  go_enter Tryz.func38, Tryz.ntmps38
  go_wp2
  go_loop [5, 8] (fun _ i => ∃ k : Nat, k ≤ s.size ∧ i = .int .i64 k ∧ ((tl s).take k).all isPri = true) (fun _ i => s.size - (intOf i).toNat)
  case atStart => exact ⟨0, Nat.zero_le _, rfl, rfl⟩
  case round =>
    obtain ⟨k, hk, rfl, ha⟩ := hrel
    have HA := hid ha
    clear ha
    by_cases hlt : k < s.size
    · have H := hid (all_succ s isPri k hlt)
      go_wp2_with (go_at_call 46; refine (printable_ok _ _).mono ?_; rintro e w' ⟨rfl, rfl⟩)
      · have h : (!isPri s[k]) = true := by assumption
        go_ret
        exact ⟨ret_bool (all_no s _ k hlt h), rfl⟩
      · have h : (!isPri s[k]) = false := by assumption
        go_round
        case rel => exact ⟨k + 1, by omega, by go_num, by rw [H.out, HA.out]; simpa using h⟩
        case measure => simp [intOf]; omega
    · go_wp2
      go_ret
      exact ⟨ret_bool (all_yes s _ k hlt HA.out), rfl⟩

end Go.Proofs.YtpofpgejhnlfjaaGreatDoor
