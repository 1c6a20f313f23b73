/- The walks of the reference's small functions on texts: lower, trim, length. -/
import Derived.Test.YtpofpgejhnlfjaaGreatDoorRefA
set_option linter.unusedVariables false
set_option linter.unusedSimpArgs false
set_option maxRecDepth 100000
namespace Go.Proofs.YtpofpgejhnlfjaaGreatDoor
open Go Go.RowKit Bpm Bph

theorem lowB_up (c : UInt8) (h1 : 65 ≤ c.toNat) (h2 : c.toNat ≤ 90) : lowB c = c + 32 ∧ ((lowB c).toNat : Int) = (c.toNat : Int) + 32 := by
  have h : isUp c = true := by simp [isUp]; omega
  have e : lowB c = c + 32 := by unfold lowB; rw [if_pos h]
  refine ⟨e, ?_⟩
  rw [e, UInt8.toNat_add]
  simp
  omega
theorem lowB_not (c : UInt8) (h : ¬ (65 ≤ c.toNat ∧ c.toNat ≤ 90)) : lowB c = c := by
  unfold lowB
  rw [if_neg]
  simp [isUp]
  omega
/-- What the loop of 'lower' holds: k bytes are done. -/
def lowK (l : List UInt8) (k : Nat) : List UInt8 := low (l.take k) ++ l.drop k
theorem lowK_len (l : List UInt8) (k : Nat) : (lowK l k).length = l.length := by simp [lowK, low]; omega
theorem lowK_0 (l : List UInt8) : lowK l 0 = l := by simp [lowK, low]
theorem lowK_all (l : List UInt8) (k : Nat) (h : l.length ≤ k) : lowK l k = low l := by
  unfold lowK; rw [List.take_of_length_le h, List.drop_of_length_le h, List.append_nil]
theorem lowK_get (l : List UInt8) (k : Nat) (h : k < l.length) (h' : k < (lowK l k).length) : (lowK l k)[k] = l[k] := by
  simp only [lowK, low]
  rw [List.getElem_append_right (by simp; omega)]
  simp
  congr 1
  omega
theorem lowK_succ (l : List UInt8) (k : Nat) (h : k < l.length) : lowK l (k + 1) = (lowK l k).set k (lowB l[k]) := by
  unfold lowK low
  rw [List.take_succ_eq_append_getElem h, List.map_append, List.drop_eq_getElem_cons h, List.set_append_right _ _ (by simp; omega)]
  have : k - ((l.take k).map lowB).length = 0 := by simp; omega
  rw [this, List.set_cons_zero]
  simp only [List.map_cons, List.map_nil, List.append_assoc, List.singleton_append]
theorem rlower_ok (s : ByteArray) (w : World) (hs : s.size ≤ maxLen) :
    Calls Tryz.prog 72 #[.string s] w fun e w' => e = .returned (.string (bs (low (tl s)))) ∧ Fr [] w w' := by
  unfold maxLen at hs
  obtain ⟨c, W1, hconv, f1, r1, z1⟩ := conv_sb (P := Tryz.prog) w 9 22 5 s (by kernel_rfl) (by kernel_rfl) (by kernel_rfl)
  have R1 := hid r1
  have F1 := hid f1
  clear r1 f1 z1
  go_enter Tryz.func72, Tryz.ntmps72
  go_wp2
  go_loopw [4] (fun i wr => ∃ k : Nat, k ≤ s.size ∧ i = .int .i64 k ∧ RowB wr w.heap.size 5 (lowK (tl s) k) ∧ Fr [] w wr) (fun i _ => s.size - (intOf i).toNat)
  case atStart => exact ⟨0, Nat.zero_le _, rfl, by rw [lowK_0]; exact R1.out, F1.out⟩
  case round =>
    obtain ⟨k, hk, rfl, hr, hf⟩ := hrel
    have hz := tl_len s
    by_cases hlt : k < s.size
    · have hkl : k < (lowK (tl s) k).length := by rw [lowK_len, hz]; exact hlt
      have c1 := hr.cell k hkl
      have c2 := hr.free k hkl
      rw [lowK_get _ _ (by rw [hz]; exact hlt), tl_get s k hlt] at c1
      have HR := hid hr
      have HF := hid hf
      have HZ := hid hz
      clear hr hf hkl hz
      by_cases h1 : 65 ≤ s[k].toNat ∧ s[k].toNat ≤ 90
      · obtain ⟨h1, h2⟩ := h1
        have hb := lowB_up s[k] h1 h2
        have HB := hid hb
        have e1 : IntKind.u8.wrap ((s[k].toNat : Int) + 32) = (s[k].toNat : Int) + 32 := by
          exact IntWalk.u8_in _ (by omega)
        clear hb
        go_wp2
        go_roundw
        case rel => exact ⟨k + 1, by omega, by go_num, by
            rw [lowK_succ _ _ (by rw [HZ.out]; exact hlt), tl_get s k hlt, ← HB.out.2]
            exact HR.out.set k _, HF.out.setCell (.inr (Nat.le_refl _)) _⟩
        case measure => simp [intOf]; omega
      · have HB := hid (lowB_not s[k] h1)
        have h1' : s[k].toNat < 65 ∨ 90 < s[k].toNat := by omega
        clear h1
        rcases h1' with h1 | h1
        all_goals
          go_wp2
          go_roundw
          case rel => exact ⟨k + 1, by omega, by go_num, by
            rw [lowK_succ _ _ (by rw [HZ.out]; exact hlt), tl_get s k hlt, HB.out]
            have hkl : k < (lowK (tl s) k).length := by rw [lowK_len, HZ.out]; exact hlt
            have e : (lowK (tl s) k).set k s[k] = lowK (tl s) k := by
              have := lowK_get (tl s) k (by rw [HZ.out]; exact hlt) hkl
              rw [tl_get s k hlt] at this
              rw [← this, List.set_getElem_self]
            rw [e]; exact HR.out, HF.out⟩
          case measure => simp [intOf]; omega
    · rw [lowK_all _ _ (by rw [hz]; omega)] at hr
      have hcv := hr.conv (P := Tryz.prog) (src := 22) (dst := 9) (e := 5) (c := c) (by kernel_rfl) (by kernel_rfl) (by kernel_rfl)
      rw [show (low (tl s)).length = s.size by simp [low, hz]] at hcv
      have HF := hid hf
      clear hr hf hz
      go_wp2
      go_ret
      exact ⟨rfl, HF.out⟩

theorem isBl_of (c : UInt8) (h : (c.toNat : Int) = 32 ∨ (c.toNat : Int) = 9) : isBl c = true := by simp [isBl]; omega
theorem isBl_not (c : UInt8) (h : ¬ ((c.toNat : Int) = 32 ∨ (c.toNat : Int) = 9)) : isBl c = false := by simp [isBl]; omega
theorem ext_drop1 (s : ByteArray) : tl (s.extract 1 s.size) = (tl s).drop 1 := tl_drop s 1
theorem tl_nil {s : ByteArray} (h : s.size = 0) : tl s = [] := List.eq_nil_of_length_eq_zero (by rw [tl_len]; exact h)
theorem tl_cons {s : ByteArray} (h : 0 < s.size) : tl s = s[0] :: tl (s.extract 1 s.size) := by
  have := drop_get s 0 h
  rw [List.drop_zero] at this
  rw [this, tl_drop]
theorem tl_snoc {s : ByteArray} (h : 0 < s.size) : tl s = tl (s.extract 0 (s.size - 1)) ++ [s[s.size - 1]] := by
  rw [tl_take, ← take_succ_get s (s.size - 1) (by omega), show s.size - 1 + 1 = s.size by omega, List.take_of_length_le (by rw [tl_len]; exact Nat.le_refl _)]
def strOf : Value → ByteArray
  | .string s => s
  | _ => ⟨#[]⟩
theorem ext_size0 (s : ByteArray) (h : 0 < s.size) : (s.extract 0 (s.size - 1)).size = s.size - 1 := by
  rw [← tl_len, tl_take, List.length_take, tl_len]; omega
theorem ext_size1 (s : ByteArray) (h : 0 < s.size) : (s.extract 1 s.size).size = s.size - 1 := by
  rw [← tl_len, tl_drop, List.length_drop, tl_len]
set_option maxHeartbeats 1000000 in
theorem rtrim_ok (s : ByteArray) (w : World) (hs : s.size ≤ maxLen) :
    Calls Tryz.prog 97 #[.string s] w fun e w' => e = .returned (.string (bs (trim (tl s)))) ∧ w = w' := by
  unfold maxLen at hs
  go_enter Tryz.func97, Tryz.ntmps97
  go_wp2
  go_loop [0] (fun v => ∃ t : ByteArray, v = .string t ∧ t.size ≤ s.size ∧ trimL (tl t) = trimL (tl s)) (fun v => (strOf v).size)
  case atStart => exact ⟨s, rfl, Nat.le_refl _, rfl⟩
  case round =>
    obtain ⟨t, rfl, hts, hT⟩ := hrel
    have HT := hid hT
    clear hT
    by_cases h0 : 0 < t.size
    · have H1 := hid (tl_cons h0)
      have H2 := hid (ext_size1 t h0)
      by_cases hb : (t[0].toNat : Int) = 32 ∨ (t[0].toNat : Int) = 9
      · have HB := hid (isBl_of _ hb)
        rcases hb with hb | hb
        · have hb1 : ((t[0].toNat : Int) == 32) = true := by simpa using hb
          clear hb
          go_wp2
          go_round
          case rel => exact ⟨_, rfl, by rw [H2.out]; omega, by rw [← HT.out, H1.out, trimL_cons, if_pos HB.out]⟩
          case measure => simp only [strOf]; rw [H2.out]; omega
        · have hb1 : ((t[0].toNat : Int) == 32) = false := by simp; omega
          have hb2 : ((t[0].toNat : Int) == 9) = true := by simpa using hb
          clear hb
          go_wp2
          go_round
          case rel => exact ⟨_, rfl, by rw [H2.out]; omega, by rw [← HT.out, H1.out, trimL_cons, if_pos HB.out]⟩
          case measure => simp only [strOf]; rw [H2.out]; omega
      · have HB := hid (isBl_not _ hb)
        have hb1 : ((t[0].toNat : Int) == 32) = false := by simp; omega
        have hb2 : ((t[0].toNat : Int) == 9) = false := by simp; omega
        have HD := hid (show trim (tl s) = trimR (tl t) by
          rw [trim_left, ← HT.out, H1.out, trimL_cons, if_neg (by rw [HB.out]; simp)])
        clear hb
        go_wp2
        clear hb1 hb2
        go_loop [0] (fun v => ∃ u : ByteArray, v = .string u ∧ u.size ≤ s.size ∧ trim (tl s) = trimR (tl u)) (fun v => (strOf v).size)
        case atStart => exact ⟨t, rfl, hts, HD.out⟩
        case round =>
          obtain ⟨u, rfl, hus, hU⟩ := hrel
          have HU := hid hU
          clear hU
          by_cases h0 : 0 < u.size
          · have H1 := hid (tl_snoc h0)
            have H2 := hid (ext_size0 u h0)
            by_cases hb : (u[u.size - 1].toNat : Int) = 32 ∨ (u[u.size - 1].toNat : Int) = 9
            · have HB := hid (isBl_of _ hb)
              rcases hb with hb | hb
              · have hb1 : ((u[u.size - 1].toNat : Int) == 32) = true := by simpa using hb
                clear hb
                go_wp2
                go_round
                case rel => exact ⟨_, rfl, by rw [H2.out]; omega, by rw [HU.out, H1.out, trimR_snoc, if_pos HB.out]⟩
                case measure => simp only [strOf]; rw [H2.out]; omega
              · have hb1 : ((u[u.size - 1].toNat : Int) == 32) = false := by simp; omega
                have hb2 : ((u[u.size - 1].toNat : Int) == 9) = true := by simpa using hb
                clear hb
                go_wp2
                go_round
                case rel => exact ⟨_, rfl, by rw [H2.out]; omega, by rw [HU.out, H1.out, trimR_snoc, if_pos HB.out]⟩
                case measure => simp only [strOf]; rw [H2.out]; omega
            · have HB := hid (isBl_not _ hb)
              have hb1 : ((u[u.size - 1].toNat : Int) == 32) = false := by simp; omega
              have hb2 : ((u[u.size - 1].toNat : Int) == 9) = false := by simp; omega
              clear hb
              go_wp2
              go_ret
              exact ⟨by rw [HU.out, H1.out, trimR_snoc, if_neg (by rw [HB.out]; simp), ← H1.out]; rfl, rfl⟩
          · have HN := hid (tl_nil (s := u) (by omega))
            go_wp2
            go_ret
            exact ⟨by rw [HU.out]; exact congrArg _ (congrArg _ (tl_inj (by rw [tl_bs, HN.out]; rfl))), rfl⟩
    · have HN := hid (tl_nil (s := t) (by omega))
      have HD := hid (show trim (tl s) = [] by rw [trim_left, ← HT.out, HN.out]; rfl)
      go_wp2
      go_loop [0] (fun v => v = .string t) (fun v => 0)
      case atStart => rfl
      case round =>
        subst hrel
        go_wp2
        go_ret
        exact ⟨by rw [HD.out]; exact congrArg _ (congrArg _ (tl_inj (by rw [tl_bs, HN.out]))), rfl⟩

/-- What 'length' tells. -/
def LenPost (w : World) (l : List UInt8) (e : Ending) (w' : World) : Prop :=
  ∃ n : Int, e = .returned (.tuple #[.int .i64 n, .bool (decide (1 ≤ l.length ∧ l.length ≤ 9 ∧ l.all isDig = true))]) ∧ ((1 ≤ l.length ∧ l.length ≤ 9 ∧ l.all isDig = true) → n = atoiD 0 l) ∧ w = w'
theorem len_no {w : World} {l : List UInt8} (h : ¬ (1 ≤ l.length ∧ l.length ≤ 9 ∧ l.all isDig = true)) : LenPost w l (.returned (.tuple #[.int .i64 0, .bool false])) w :=
  ⟨0, by rw [decide_eq_false h], fun x => absurd x h, rfl⟩
theorem len_yes {w : World} {l : List UInt8} (h : 1 ≤ l.length ∧ l.length ≤ 9 ∧ l.all isDig = true) : LenPost w l (.returned (.tuple #[.int .i64 (atoiD 0 l : Int), .bool true])) w :=
  ⟨_, by rw [decide_eq_true h], fun _ => rfl, rfl⟩
set_option maxHeartbeats 1000000 in
theorem rlength_ok (s : ByteArray) (w : World) (hs : s.size ≤ maxLen) :
    Calls Tryz.prog 71 #[.string s] w (LenPost w (tl s)) := by
  have HZ := hid (tl_len s)
  by_cases h1 : 1 ≤ s.size
  · by_cases h9 : s.size ≤ 9
    · go_enter Tryz.func71, Tryz.ntmps71
      go_wp2
      go_loop [4, 5] (fun n i => ∃ k : Nat, k ≤ s.size ∧ i = .int .i64 k ∧ n = .int .i64 (atoiD 0 ((tl s).take k) : Int) ∧ ((tl s).take k).all isDig = true) (fun _ i => s.size - (intOf i).toNat)
      case atStart => exact ⟨0, Nat.zero_le _, rfl, by rw [List.take_zero, ratoi_nil]; rfl, rfl⟩
      case round =>
        obtain ⟨k, hk, rfl, rfl, ha⟩ := hrel
        have HA := hid ha
        by_cases hlt : k < s.size
        · have H := hid (all_succ s isDig k hlt)
          have hlt9 : atoiD 0 ((tl s).take k) < 1000000000 := by
            have := ratoi_lt 0 _ ha
            have hl : ((tl s).take k).length ≤ 8 := by rw [List.length_take]; omega
            have := Nat.pow_le_pow_right (show 0 < 10 by omega) hl
            omega
          clear ha
          have hs9 : atoiD 0 ((tl s).take (k + 1)) = 10 * atoiD 0 ((tl s).take k) + (s[k].toNat - 48) := by rw [take_succ_get s k hlt, ratoi_snoc]
          have HS := hid hs9
          clear hs9
          generalize atoiD 0 ((tl s).take k) = n at hlt9 HS ⊢
          by_cases h2 : 48 ≤ s[k].toNat
          · by_cases h3 : s[k].toNat ≤ 57
            · have e1 : IntKind.u8.wrap ((s[k].toNat : Int) - 48) = (s[k].toNat : Int) - 48 := IntWalk.u8_in _ (by omega)
              go_wp2
              go_round
              case rel => exact ⟨k + 1, by omega, by go_num, by rw [HS.out]; go_num, by rw [H.out, HA.out]; simp [isDig]; omega⟩
              case measure => simp [intOf]; omega
            · go_wp2
              go_ret2
              exact len_no (fun hx => by have := all_no s isDig k hlt (by simp [isDig]; omega); rw [hx.2.2] at this; cases this)
          · go_wp2
            go_ret2
            exact len_no (fun hx => by have := all_no s isDig k hlt (by simp [isDig]; omega); rw [hx.2.2] at this; cases this)
        · have HE := hid (show (tl s).take k = tl s from List.take_of_length_le (by rw [HZ.out]; omega))
          clear ha
          go_wp2
          go_ret2
          have hA := HA.out
          rw [HE.out] at hA
          rw [HE.out]
          exact len_yes ⟨by rw [HZ.out]; exact h1, by rw [HZ.out]; exact h9, hA⟩
    · unfold maxLen at hs
      go_enter Tryz.func71, Tryz.ntmps71
      go_wp2
      go_ret2
      exact len_no (fun hx => h9 (by rw [← HZ.out]; exact hx.2.1))
  · unfold maxLen at hs
    go_enter Tryz.func71, Tryz.ntmps71
    go_wp2
    go_ret2
    exact len_no (fun hx => h1 (by rw [← HZ.out]; exact hx.1))
end Go.Proofs.YtpofpgejhnlfjaaGreatDoor
