/- The reader's small methods. -/
import Derived.Test.YtpofpgejhnlfjaaGreatDoorHttpF
import Derived.Test.YtpofpgejhnlfjaaGreatDoorMap
set_option linter.unusedVariables false
set_option linter.unusedSimpArgs false
set_option maxRecDepth 100000
namespace Go.Proofs.YtpofpgejhnlfjaaGreatDoor
open Go Go.RowKit Bpm Bph

theorem wrong_ok (w : World) (g : Nat) (bv : Value) (x : Rd) (hr : RdAt w g bv x) (st : Int) :
    Calls Tryz.prog 66 #[.pointer (some ⟨g, 0, none⟩), .int .i64 st] w fun e w' => e = .returned .nilFunc ∧ RdAt w' g bv { x with st := st } ∧ Fr [g] w w' := by
  have d9 := blk_cell hr 9
  have e9 := blk_free hr 9
  simp [Rd.cells] at d9
  have HR := hid hr
  clear hr
  go_enter Tryz.func66, Tryz.ntmps66
  go_wp2
  go_ret
  exact ⟨rfl, HR.out.set_st st, (Fr.refl _ _).setCell (.inl (by simp)) _⟩

/-- A header's function. -/
def cntFn (l : List UInt8) : Value := if l = hCL then .func (.func 114) #[] #[] else if l = hTE then .func (.func 115) #[] #[] else if l = hCO then .func (.func 116) #[] #[] else .nilFunc
def cntD : DataW Value := (((DataW.map []).put (.string hCL) (.held (.func (.func 114) #[] #[]))).put (.string hTE) (.held (.func (.func 115) #[] #[]))).put (.string hCO) (.held (.func (.func 116) #[] #[]))
theorem cntD_at (l : List UInt8) (z : Value) (hz : z = .nilFunc) : cntD.atKey (.string l) (.held z) = .held (cntFn l) := by
  subst hz
  unfold cntD cntFn
  rw [at_put _ ((isMap_0.put _ _).put _ _), at_put _ (isMap_0.put _ _), at_put _ isMap_0, atKey_empty]
  by_cases h1 : l = hCL
  · subst h1
    rw [if_neg (by simp [hCL, hCO]), if_neg (by simp [hCL, hTE]), if_pos rfl, if_pos rfl]
  · by_cases h2 : l = hTE
    · subst h2
      rw [if_neg (by simp [hTE, hCO]), if_pos rfl, if_neg h1, if_pos rfl]
    · by_cases h3 : l = hCO
      · subst h3
        rw [if_pos rfl, if_neg h1, if_neg h2, if_pos rfl]
      · rw [if_neg h3, if_neg h2, if_neg h1, if_neg h1, if_neg h2, if_neg h3]
theorem strKey : Maps.Keyed Tryz.prog 9 := Maps.string_keyed Tryz.underlying9
theorem keyS (l : List UInt8) (h : l.length ≤ maxLen) : keyOf Tryz.prog 9 (.string (bs l)) = some (.string l) := WideMaps.keyOf_string_mk Tryz.underlying9 (by rw [size_bs]; exact h)
theorem counts_ok (w : World) : Calls Tryz.prog 93 #[] w fun e w' => ∃ b, e = .returned (.map (some b)) ∧ w.heap.size ≤ b ∧ OwnMap Tryz.prog 9 w' b 3 cntD ∧ Fr [] w w' := by
  have h0 : OwnMap Tryz.prog 9 (w.alloc (.map #[] 0)) w.heap.size 0 (.map []) := World.ownsMap_made w _ _ _
  have f0 := hid (((Fr.refl [] w).alloc (.map #[] 0)))
  have rm := run_makeMap (P := Tryz.prog) 130 w
  go_enter Tryz.func93, Tryz.ntmps93
  go_wp2_with (first | (refine wp_insert _ rfl _ _ _ _ rfl _ _ strKey Tryz.underlying130 _ _ _ rfl h0 (by decide) _ _ _ rfl rfl (keyS hCL (by decide)) ?_; intro w1 m1 g1; clear h0) | (refine wp_insert _ rfl _ _ _ _ rfl _ _ strKey Tryz.underlying130 _ _ _ rfl m1 (by decide) _ _ _ rfl rfl (keyS hTE (by decide)) ?_; intro w2 m2 g2; clear m1)  | (refine wp_insert _ rfl _ _ _ _ rfl _ _ strKey Tryz.underlying130 _ _ _ rfl m2 (by decide) _ _ _ rfl rfl (keyS hCO (by decide)) ?_; intro w3 m3 g3; clear m2))
  go_ret
  refine ⟨_, rfl, Nat.le_refl _, m3, ?_⟩
  refine ((f0.out.then g1 (by simp)).then g2 (by simp)).then g3 (by simp)

theorem RdAt.set_len {w : World} {g : Nat} {bv : Value} {x : Rd} (h : RdAt w g bv x) (k : Int) : RdAt (w.setCell ⟨g, 8, none⟩ (.int .i64 k)) g bv { x with len := k } := blk_set h 8 _
theorem RdAt.set_close {w : World} {g : Nat} {bv : Value} {x : Rd} (h : RdAt w g bv x) (k : Bool) : RdAt (w.setCell ⟨g, 5, none⟩ (.bool k)) g bv { x with close := k } := blk_set h 5 _
theorem RdAt.set_hd {w : World} {g : Nat} {bv : Value} {x : Rd} (h : RdAt w g bv x) (k : Nat) : RdAt (w.setCell ⟨g, 7, none⟩ (.int .i64 k)) g bv { x with hd := k } := blk_set h 7 _
theorem RdAt.inc_hd {w : World} {g : Nat} {bv : Value} {x : Rd} (h : RdAt w g bv x) : RdAt (w.setCell ⟨g, 7, none⟩ (.int .i64 ((x.hd : Int) + 1))) g bv { x with hd := x.hd + 1 } := h.set_hd (x.hd + 1)
theorem RdAt.drewN {w : World} {g : Nat} {bv : Value} {x : Rd} (h : RdAt w g bv x) (n : Nat) : RdAt (w.drewN n) g bv x := h
theorem RdAt.set_body {w : World} {g : Nat} {bv : Value} {x : Rd} (h : RdAt w g bv x) (k : Value) : RdAt (w.setCell ⟨g, 6, none⟩ k) g bv { x with body := k } := blk_set h 6 _
theorem RdAt.set_wh {w : World} {g : Nat} {bv : Value} {x : Rd} (h : RdAt w g bv x) (k : Bool) : RdAt (w.setCell ⟨g, 10, none⟩ (.bool k)) g bv { x with wh := k } := blk_set h 10 _
theorem RdAt.set_m {w : World} {g : Nat} {bv : Value} {x : Rd} (h : RdAt w g bv x) (k : List UInt8) : RdAt (w.setCell ⟨g, 2, none⟩ (.string (bs k))) g bv { x with m := k } := blk_set h 2 _
theorem RdAt.set_p {w : World} {g : Nat} {bv : Value} {x : Rd} (h : RdAt w g bv x) (k : List UInt8) : RdAt (w.setCell ⟨g, 3, none⟩ (.string (bs k))) g bv { x with p := k } := blk_set h 3 _
theorem RdAt.set_q {w : World} {g : Nat} {bv : Value} {x : Rd} (h : RdAt w g bv x) (k : Value) : RdAt (w.setCell ⟨g, 4, none⟩ k) g bv { x with q := k } := blk_set h 4 _

def CntPost (w : World) (g : Nat) (bv : Value) (x : Rd) (nm v : List UInt8) (e : Ending) (w' : World) : Prop :=
  Fr [g] w w' ∧ match countS nm v x.len x.close with
  | some (l, c) => e = .returned (.bool true) ∧ RdAt w' g bv { x with len := l, close := c }
  | none => e = .returned (.bool false) ∧ RdAt w' g bv x
theorem te_ok (w : World) (g : Nat) (bv : Value) (x : Rd) (hr : RdAt w g bv x) (s : ByteArray) :
    Calls Tryz.prog 115 #[.pointer (some ⟨g, 0, none⟩), .string s] w (CntPost w g bv x hTE (tl s)) := by
  have HR := hid hr
  clear hr
  go_enter Tryz.func115, Tryz.ntmps115
  go_wp2
  go_ret
  refine ⟨Fr.refl _ _, ?_⟩
  unfold countS
  rw [if_neg (by simp [hCL, hTE]), if_pos rfl]
  exact ⟨rfl, HR.out⟩
theorem countCL (v : List UInt8) (len : Int) (close : Bool) : countS hCL v len close = if len < 0 ∧ 1 ≤ v.length ∧ v.length ≤ 9 ∧ v.all isDig = true then some ((atoiD 0 v : Int), close) else none := by
  unfold countS
  rw [if_pos rfl]
theorem countCO (v : List UInt8) (len : Int) (close : Bool) : countS hCO v len close = some (len, close || decide (low v = hClose)) := by
  unfold countS
  rw [if_neg (by simp [hCL, hCO]), if_neg (by simp [hTE, hCO]), if_pos rfl]
set_option maxHeartbeats 4000000 in
theorem cl_ok (w : World) (g : Nat) (bv : Value) (x : Rd) (hr : RdAt w g bv x) (s : ByteArray) (hs : s.size ≤ 20000) :
    Calls Tryz.prog 114 #[.pointer (some ⟨g, 0, none⟩), .string s] w (CntPost w g bv x hCL (tl s)) := by
  have d8 := blk_cell hr 8
  have e8 := blk_free hr 8
  simp [Rd.cells] at d8
  have HR := hid hr
  clear hr
  have hz := tl_len s
  cases hc : decide (x.len < 0 ∧ 1 ≤ (tl s).length ∧ (tl s).length ≤ 9 ∧ (tl s).all isDig = true) with
  | true =>
    have HC := hid (show countS hCL (tl s) x.len x.close = some ((atoiD 0 (tl s) : Int), x.close) by rw [countCL, if_pos (by simpa using hc)])
    simp only [decide_eq_true_eq] at hc
    obtain ⟨h1, h2, h3, h4⟩ := hc
    go_enter Tryz.func114, Tryz.ntmps114
    go_wp2_with (first | (go_at_call 38; refine (all_isDig s _ (by unfold maxLen; omega)).mono ?_; rintro e w' ⟨rfl, rfl⟩) | (go_at_call 79; refine (atoi_ok s _ (by omega) (by omega) h4).mono ?_; rintro e w1 ⟨rfl, hb⟩; have hr1 := RdAt.fr HR.out (Fr.of_below hb []) (by simp); have f8 := blk_free hr1 8; have k8 := blk_cell hr1 8; simp [Rd.cells] at k8; have HR1 := hid hr1; have HB := hid hb; clear hr1 hb))
    go_ret
    exact ⟨(Fr.of_below HB.out [g]).setCell (.inl (by simp)) _, by rw [HC.out]; exact ⟨rfl, HR1.out.set_len _⟩⟩
  | false =>
    have HC := hid (show countS hCL (tl s) x.len x.close = none by rw [countCL, if_neg (by simpa using hc)])
    by_cases h1 : x.len < 0
    · by_cases h2 : 1 ≤ s.size
      · by_cases h3 : s.size ≤ 9
        · have h4 : (tl s).all isDig = false := by
            cases h : (tl s).all isDig with
            | false => rfl
            | true => simp [h1, h, hz, h2, h3] at hc
          clear hc
          go_enter Tryz.func114, Tryz.ntmps114
          go_wp2_with (first | (go_at_call 38; refine (all_isDig s _ (by unfold maxLen; omega)).mono ?_; rintro e w' ⟨rfl, rfl⟩))
          go_ret
          exact ⟨Fr.refl _ _, by rw [HC.out]; exact ⟨rfl, HR.out⟩⟩
        · clear hc
          go_enter Tryz.func114, Tryz.ntmps114
          go_wp2
          go_ret
          exact ⟨Fr.refl _ _, by rw [HC.out]; exact ⟨rfl, HR.out⟩⟩
      · clear hc
        go_enter Tryz.func114, Tryz.ntmps114
        go_wp2
        go_ret
        exact ⟨Fr.refl _ _, by rw [HC.out]; exact ⟨rfl, HR.out⟩⟩
    · clear hc
      go_enter Tryz.func114, Tryz.ntmps114
      go_wp2
      go_ret
      exact ⟨Fr.refl _ _, by rw [HC.out]; exact ⟨rfl, HR.out⟩⟩
set_option maxHeartbeats 4000000 in
theorem co_ok (w : World) (g : Nat) (bv : Value) (x : Rd) (hr : RdAt w g bv x) (s : ByteArray) (hs : s.size ≤ 20000) (ha : (tl s).all isLin = true) :
    Calls Tryz.prog 116 #[.pointer (some ⟨g, 0, none⟩), .string s] w (CntPost w g bv x hCO (tl s)) := by
  have d5 := blk_cell hr 5
  have e5 := blk_free hr 5
  simp [Rd.cells] at d5
  have HR := hid hr
  clear hr
  have HC := hid (countCO (tl s) x.len x.close)
  cases hx : x.close with
  | true =>
    rw [hx] at d5
    go_enter Tryz.func116, Tryz.ntmps116
    go_wp2_with (first | (go_at_call 94; fail))
    go_ret
    refine ⟨(Fr.refl _ _).setCell (.inl (by simp)) _, ?_⟩
    rw [HC.out, hx]
    exact ⟨rfl, HR.out.set_close true⟩
  | false =>
    rw [hx] at d5
    go_enter Tryz.func116, Tryz.ntmps116
    go_wp2_with (first | (go_at_call 94; refine (low_ok s _ (by omega) (.inl ha)).mono ?_; rintro e w1 ⟨rfl, hb⟩; have hr1 := RdAt.fr HR.out (Fr.of_below hb []) (by simp); have f5 := blk_free hr1 5; have k5 := blk_cell hr1 5; simp [Rd.cells] at k5; rw [hx] at k5; have HR1 := hid hr1; have HB := hid hb; clear hr1 hb))
    go_ret
    refine ⟨(Fr.of_below HB.out [g]).setCell (.inl (by simp)) _, ?_⟩
    rw [HC.out, hx, toList_tl, tl_bs]
    have hb : (low (tl s) == [99, 108, 111, 115, 101]) = (false || decide (low (tl s) = hClose)) := by
      rw [Bool.false_or, Bool.eq_iff_iff, beq_iff_eq, decide_eq_true_eq]; rfl
    rw [hb]
    exact ⟨rfl, HR1.out.set_close _⟩

/-- slices.Clone: bytes of their own. -/
def ClonePost (w : World) (v : Value) (l : List UInt8) (e : Ending) (w' : World) : Prop :=
  ∃ v', e = .returned v' ∧ OwnR w' v' 5 1 l.length (u8s l) ∧ Fr [] w w' ∧ ∀ k, v'.ownBlock = some k → w.heap.size ≤ k
set_option maxHeartbeats 4000000 in
theorem clone_ok (w : World) (v : Value) (l : List UInt8) (h : BytW w v l) (hl : l.length ≤ 2000000) : Calls Tryz.prog 47 #[v] w (ClonePost w v l) := by
  have f1 : Fr [] w (w.alloc (.cells #[] 5)) := (Fr.refl [] w).alloc _
  have h1 := h.fr f1 (by simp)
  have hs := RowR.src (P := Tryz.prog) (tx := 22) (e' := 5) (sz := 1) (by kernel_rfl) h1 (BytW.good _) (by simp [u8s]) (by omega) (u8s_one l)
  obtain ⟨A, c, rfl, hc, hn, hx⟩ := h
  have hnil : ∀ (n : Nat) (W : World), (binOp .eql 22 (.slice A n c) (.slice none 0 0)).run Tryz.prog W = .ok (.bool A.isNone) W := by intro n W; cases A <;> rfl
  have ho : OwnR (w.alloc (.cells #[] 5)) (.slice (some ⟨w.heap.size, 0, none⟩) 0 0) 5 1 0 [] := ⟨by simp, by omega, .inr ⟨_, 0, 0, #[], rfl, blk_new w _, by omega, by omega, by omega⟩⟩
  cases A with
  | none =>
    have hl0 : l = [] := by
      cases l with
      | nil => rfl
      | cons x r => obtain ⟨b, o, cur, e, fr, h0, _⟩ := hx (by simp [u8s]); cases h0
    subst hl0
    go_enter Tryz.func47, Tryz.ntmps47
    go_wp2
    go_ret
    exact ⟨_, rfl, OwnR.nil w _ _, Fr.refl _ _, fun k hk => by cases hk⟩
  | some a =>
    go_enter Tryz.func47, Tryz.ntmps47
    go_wp2_with (at_builtin; refine wp_app rfl _ _ _ _ rfl elU8 ho rfl hs rfl (by omega) (by omega) ?_; intro v' w1 o1 g1 at1; have O1 := hid o1; have G1 := hid g1; have A1 := hid at1; clear o1 g1 at1)
    go_ret
    refine ⟨v', rfl, ?_, ?_, ?_⟩
    · have := O1.out
      simpa using this
    · exact (Fr.alloc (Fr.refl [] w) _).then (Fr.of_grown G1.out) (by simp [Value.ownBlock])
    · intro k hk
      rcases A1.out with e | ⟨k', e, hge⟩
      · rw [e] at hk; cases hk; exact Nat.le_refl _
      · rw [e] at hk; cases hk; simp at hge; omega
end Go.Proofs.YtpofpgejhnlfjaaGreatDoor
