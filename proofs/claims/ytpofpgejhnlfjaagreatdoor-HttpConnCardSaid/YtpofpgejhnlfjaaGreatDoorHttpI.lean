/- The reader's states: a header's line. -/
import Derived.Test.YtpofpgejhnlfjaaGreatDoorHttpH
import Derived.Test.YtpofpgejhnlfjaaGreatDoorAtoi
set_option linter.unusedVariables false
set_option linter.unusedSimpArgs false
set_option maxRecDepth 100000
namespace Go.Proofs.YtpofpgejhnlfjaaGreatDoor
open Go Go.RowKit Bpm Bph

theorem dropWhile_sub {p : UInt8 → Bool} (l : List UInt8) : ∀ x, x ∈ l.dropWhile p → x ∈ l := fun x h => (List.dropWhile_sublist p).subset h
theorem trim_sub (l : List UInt8) : ∀ x, x ∈ trim l → x ∈ l := by
  intro x h
  unfold trim trimL at h
  have := dropWhile_sub _ x h
  rw [List.mem_reverse] at this
  have := dropWhile_sub _ x this
  rwa [List.mem_reverse] at this
theorem trim_len (l : List UInt8) : (trim l).length ≤ l.length := by
  unfold trim trimL
  refine Nat.le_trans (List.dropWhile_sublist _).length_le ?_
  rw [List.length_reverse]
  refine Nat.le_trans (List.dropWhile_sublist _).length_le ?_
  rw [List.length_reverse]
  exact Nat.le_refl _
theorem trim_lin {l : List UInt8} (h : l.all isLin = true) : (trim l).all isLin = true := List.all_eq_true.2 fun x hx => List.all_eq_true.1 h x (trim_sub l x hx)
theorem countS_len {nm v : List UInt8} {len l : Int} {close c : Bool} (h : countS nm v len close = some (l, c)) (h1 : -1 ≤ len) (h2 : len ≤ 999999999) : -1 ≤ l ∧ l ≤ 999999999 := by
  unfold countS at h
  split at h
  · split at h
    · rename_i hx
      cases h
      have := atoiD_le hx.2.2.1 hx.2.2.2
      omega
    · cases h
  · split at h
    · cases h
    · split at h <;> (cases h; exact ⟨h1, h2⟩)
theorem cut_all {p : UInt8 → Bool} (c : UInt8) (l : List UInt8) (h : l.all p = true) : (cutB c l).1.all p = true ∧ (cutB c l).2.1.all p = true := by
  unfold cutB
  cases idx c l with
  | none => exact ⟨h, rfl⟩
  | some i => exact ⟨List.all_eq_true.2 fun x hx => List.all_eq_true.1 h x (List.mem_of_mem_take hx), List.all_eq_true.2 fun x hx => List.all_eq_true.1 h x (List.mem_of_mem_drop hx)⟩

/-- A header's line, taken apart. -/
structure Hdr (s nm vl : List UInt8) (ok : Bool) : Prop where
  cut : cutB 58 s = (nm, vl, ok)
  ln : nm.length ≤ s.length
  lv : vl.length ≤ s.length
  lin : vl.all isLin = true
theorem hdr_of (s : List UInt8) (h : s.all isLin = true) : ∃ nm vl ok, Hdr s nm vl ok := ⟨(cutB 58 s).1, (cutB 58 s).2.1, (cutB 58 s).2.2, rfl, (cut_len 58 s).1, (cut_len 58 s).2, (cut_all 58 s h).2⟩
theorem Hdr.ok {s nm vl : List UInt8} {ok : Bool} (h : Hdr s nm vl ok) (w : World) (hm : Mx w) (hs : s.length ≤ 20000) :
    Calls Tryz.prog 40 #[.string (bs s), .string ⟨#[58]⟩] w fun e w' => e = .returned (.tuple #[.string (bs nm), .string (bs vl), .bool ok]) ∧ ∃ n, w' = w.drewN n := by
  have := cut_ok (bs s) 58 w hm (by rw [size_bs]; omega)
  rw [tl_bs, h.cut] at this
  exact this
theorem Hdr.no {s nm vl : List UInt8} {ok : Bool} (h : Hdr s nm vl ok) {n : Nat} {len : Int} {close : Bool} (hc : ¬ (ok = true ∧ n + 1 ≤ 32 ∧ 1 ≤ nm.length ∧ nm.length ≤ 64 ∧ nm.all isNam = true)) : hdrS s n len close = none := by
  unfold hdrS
  rw [h.cut]
  exact if_neg hc
theorem Hdr.yes {s nm vl : List UInt8} {ok : Bool} (h : Hdr s nm vl ok) {n : Nat} {len : Int} {close : Bool} (hc : ok = true ∧ n + 1 ≤ 32 ∧ 1 ≤ nm.length ∧ nm.length ≤ 64 ∧ nm.all isNam = true) : hdrS s n len close = countS (low nm) (trim vl) len close := by
  unfold hdrS
  rw [h.cut]
  exact if_pos hc

/-- What a header that is none leads to. -/
theorem hd_fault {H0 H : RO} {w W W' : World} {g : Nat} {bv : Value} {buf s : List UInt8} {y y' : Rd} {qs : List (List UInt8 × List UInt8)} (EE : NxE H0 w g bv buf) (CC : NxC H0 w g bv y H W) (e : lineS (buf.drop y.at_) = .got s) (hs : s ≠ [])
    (hh : hdrS s y.hd y.len y.close = none) (hp : parse buf = hdrs buf y.at_ y.hd y.len ⟨y.m, y.p, qs, y.close, []⟩) (f : Fr [g] W W') (hr : RdAt W' g bv y') (h4 : y'.st = 400) : StPost H0 w g bv buf (buf.length - y.at_ + 2) (.returned .nilFunc) W' := by
  have hq : parse buf = .fault 400 := by rw [hp, hdrs_no e hs hh]
  exact ⟨_, _, rfl, ⟨_, _, CC.to EE f hr, .inr (.inr (.inr ⟨rfl, rfl, fin_fault hq h4 (by decide)⟩))⟩, by omega⟩

set_option maxHeartbeats 4000000 in
theorem header_wrong (H0 H : RO) (w W : World) (g : Nat) (bv : Value) (buf s nm vl : List UInt8) (ok : Bool) (y : Rd) (qs : List (List UInt8 × List UInt8)) (E : NxE H0 w g bv buf) (hC : NxC H0 w g bv y H W) (hI : HdI buf y H qs) (hhd : y.hd ≤ 32)
    (hp : parse buf = hdrs buf y.at_ y.hd y.len ⟨y.m, y.p, qs, y.close, []⟩) (e : lineS (buf.drop y.at_) = .got s) (hne : s ≠ []) (hd : Hdr s nm vl ok)
    (hw : ¬ (ok = true ∧ y.hd + 1 ≤ 32 ∧ 1 ≤ nm.length ∧ nm.length ≤ 64 ∧ nm.all isNam = true)) :
    Calls Tryz.prog 67 #[.pointer (some ⟨g, 0, none⟩)] W (StPost H0 w g bv buf (buf.length - y.at_ + 2)) := by
  have EE := hid E
  have CC := hid hC
  have hM := hC.mx E
  have hB := hC.byt E
  have hr := hC.rd
  have hs := E.small
  have hE := hC.env E
  have hno := hC.none E
  have hge := hE.ne hno
  have hl := line_got W g bv y buf hr hM hB hI.1 hs e
  obtain ⟨g1, g2, g3, g4⟩ := lineS_got e
  have HP := hid hp
  have EL := hid e
  have hln := hd.ln
  have hlv := hd.lv
  have hz := size_bs nm
  have hse : ((bs s).toList == []) = false := by rw [toList_tl, tl_bs]; cases s with | nil => exact absurd rfl hne | cons c r => rfl
  have HNO := hid hno
  clear E hC hB hr g2 e hp hE hno
  have HN := hid (hd.no (n := y.hd) (len := y.len) (close := y.close) hw)
  cases ok with
  | false =>
    clear hw
    go_enter Tryz.func67, Tryz.ntmps67
    go_wp2_with (first
      | (go_at_call 63; refine hl.mono ?_; rintro e w1 ⟨rfl, r1, f1⟩; have d7 := blk_cell r1 7; have e7 := blk_free r1 7; simp [Rd.cells] at d7; have R1 := hid r1; have F1 := hid f1; have hM1 := hid (hM.fr f1 (by simpa using Ne.symm hge)); clear r1 f1)
      | (go_at_call 40; refine (hd.ok _ (hM1.out.fr ((Fr.refl [g] w1).setCell (.inl (by simp)) _) (by simpa using Ne.symm hge)) (by omega)).mono ?_; rintro e w' ⟨rfl, n, rfl⟩)
      | (go_at_call 66; refine (wrong_ok _ g bv _ (R1.out.inc_hd.drewN n) 400).mono ?_; rintro e w2 ⟨rfl, r2, f2⟩; have R2 := hid r2; have F2 := hid f2; clear r2 f2))
    go_ret
    exact hd_fault EE.out CC.out EL.out hne HN.out HP.out ((F1.out.trans (((Fr.refl [g] w1).setCell (.inl (by simp)) _).drewN n)).trans F2.out) R2.out rfl
  | true =>
    by_cases h1 : y.hd + 1 ≤ 32
    · by_cases h2 : 1 ≤ nm.length
      · by_cases h3 : nm.length ≤ 64
        · have h4 : nm.all isNam = false := by
            cases h : nm.all isNam with
            | false => rfl
            | true => exact absurd ⟨rfl, h1, h2, h3, h⟩ hw
          clear hw
          go_enter Tryz.func67, Tryz.ntmps67
          go_wp2_with (first
            | (go_at_call 63; refine hl.mono ?_; rintro e w1 ⟨rfl, r1, f1⟩; have d7 := blk_cell r1 7; have e7 := blk_free r1 7; simp [Rd.cells] at d7; have R1 := hid r1; have F1 := hid f1; have hM1 := hid (hM.fr f1 (by simpa using Ne.symm hge)); clear r1 f1)
            | (go_at_call 40; refine (hd.ok _ (hM1.out.fr ((Fr.refl [g] w1).setCell (.inl (by simp)) _) (by simpa using Ne.symm hge)) (by omega)).mono ?_; rintro e w' ⟨rfl, n, rfl⟩)
            | (go_at_call 38; refine (all_isNam (bs nm) _ (by rw [size_bs]; unfold maxLen; omega)).mono ?_; rintro e w' ⟨rfl, rfl⟩; rw [tl_bs])
            | (go_at_call 66; refine (wrong_ok _ g bv _ (R1.out.inc_hd.drewN n) 400).mono ?_; rintro e w2 ⟨rfl, r2, f2⟩; have R2 := hid r2; have F2 := hid f2; clear r2 f2))
          go_ret
          exact hd_fault EE.out CC.out EL.out hne HN.out HP.out ((F1.out.trans (((Fr.refl [g] w1).setCell (.inl (by simp)) _).drewN n)).trans F2.out) R2.out rfl
        · clear hw
          go_enter Tryz.func67, Tryz.ntmps67
          go_wp2_with (first
            | (go_at_call 63; refine hl.mono ?_; rintro e w1 ⟨rfl, r1, f1⟩; have d7 := blk_cell r1 7; have e7 := blk_free r1 7; simp [Rd.cells] at d7; have R1 := hid r1; have F1 := hid f1; have hM1 := hid (hM.fr f1 (by simpa using Ne.symm hge)); clear r1 f1)
            | (go_at_call 40; refine (hd.ok _ (hM1.out.fr ((Fr.refl [g] w1).setCell (.inl (by simp)) _) (by simpa using Ne.symm hge)) (by omega)).mono ?_; rintro e w' ⟨rfl, n, rfl⟩)
            | (go_at_call 66; refine (wrong_ok _ g bv _ (R1.out.inc_hd.drewN n) 400).mono ?_; rintro e w2 ⟨rfl, r2, f2⟩; have R2 := hid r2; have F2 := hid f2; clear r2 f2))
          go_ret
          exact hd_fault EE.out CC.out EL.out hne HN.out HP.out ((F1.out.trans (((Fr.refl [g] w1).setCell (.inl (by simp)) _).drewN n)).trans F2.out) R2.out rfl
      · clear hw
        go_enter Tryz.func67, Tryz.ntmps67
        go_wp2_with (first
          | (go_at_call 63; refine hl.mono ?_; rintro e w1 ⟨rfl, r1, f1⟩; have d7 := blk_cell r1 7; have e7 := blk_free r1 7; simp [Rd.cells] at d7; have R1 := hid r1; have F1 := hid f1; have hM1 := hid (hM.fr f1 (by simpa using Ne.symm hge)); clear r1 f1)
          | (go_at_call 40; refine (hd.ok _ (hM1.out.fr ((Fr.refl [g] w1).setCell (.inl (by simp)) _) (by simpa using Ne.symm hge)) (by omega)).mono ?_; rintro e w' ⟨rfl, n, rfl⟩)
          | (go_at_call 66; refine (wrong_ok _ g bv _ (R1.out.inc_hd.drewN n) 400).mono ?_; rintro e w2 ⟨rfl, r2, f2⟩; have R2 := hid r2; have F2 := hid f2; clear r2 f2))
        go_ret
        exact hd_fault EE.out CC.out EL.out hne HN.out HP.out ((F1.out.trans (((Fr.refl [g] w1).setCell (.inl (by simp)) _).drewN n)).trans F2.out) R2.out rfl
    · clear hw
      go_enter Tryz.func67, Tryz.ntmps67
      go_wp2_with (first
        | (go_at_call 63; refine hl.mono ?_; rintro e w1 ⟨rfl, r1, f1⟩; have d7 := blk_cell r1 7; have e7 := blk_free r1 7; simp [Rd.cells] at d7; have R1 := hid r1; have F1 := hid f1; have hM1 := hid (hM.fr f1 (by simpa using Ne.symm hge)); clear r1 f1)
        | (go_at_call 40; refine (hd.ok _ (hM1.out.fr ((Fr.refl [g] w1).setCell (.inl (by simp)) _) (by simpa using Ne.symm hge)) (by omega)).mono ?_; rintro e w' ⟨rfl, n, rfl⟩)
        | (go_at_call 66; refine (wrong_ok _ g bv _ (R1.out.inc_hd.drewN n) 400).mono ?_; rintro e w2 ⟨rfl, r2, f2⟩; have R2 := hid r2; have F2 := hid f2; clear r2 f2))
      go_ret
      exact hd_fault EE.out CC.out EL.out hne HN.out HP.out ((F1.out.trans (((Fr.refl [g] w1).setCell (.inl (by simp)) _).drewN n)).trans F2.out) R2.out rfl

set_option maxHeartbeats 4000000 in
theorem header_nil (H0 H : RO) (w W : World) (g : Nat) (bv : Value) (buf s nm vl : List UInt8) (ok : Bool) (y : Rd) (qs : List (List UInt8 × List UInt8)) (E : NxE H0 w g bv buf) (hC : NxC H0 w g bv y H W) (hI : HdI buf y H qs) (hhd : y.hd ≤ 32)
    (hp : parse buf = hdrs buf y.at_ y.hd y.len ⟨y.m, y.p, qs, y.close, []⟩) (e : lineS (buf.drop y.at_) = .got s) (hne : s ≠ []) (hd : Hdr s nm vl ok) (hw : ok = true ∧ y.hd + 1 ≤ 32 ∧ 1 ≤ nm.length ∧ nm.length ≤ 64 ∧ nm.all isNam = true)
    (hfn : cntFn (low nm) = .nilFunc) :
    Calls Tryz.prog 67 #[.pointer (some ⟨g, 0, none⟩)] W (StPost H0 w g bv buf (buf.length - y.at_ + 2)) := by
  have EE := hid E
  have CC := hid hC
  have hM := hC.mx E
  have hB := hC.byt E
  have hr := hC.rd
  have hs := E.small
  have hE := hC.env E
  have hno := hC.none E
  have hge := hE.ne hno
  have hl := line_got W g bv y buf hr hM hB hI.1 hs e
  obtain ⟨g1, g2, g3, g4⟩ := lineS_got e
  have HP := hid hp
  have EL := hid e
  have hln := hd.ln
  have hlv := hd.lv
  have hz := size_bs nm
  have hse : ((bs s).toList == []) = false := by rw [toList_tl, tl_bs]; cases s with | nil => exact absurd rfl hne | cons c r => rfl
  have HNO := hid hno
  clear E hC hB hr g2 e hp hE hno
  have HN := hid (hd.yes (len := y.len) (close := y.close) hw)
  obtain ⟨rfl, h1, h2, h3, h4⟩ := hw
  have hnf1 : ∀ W : World, (binOp .neq 129 .nilFunc .nilFunc).run Tryz.prog W = .ok (.bool false) W := fun _ => rfl
  have hnf2 : ∀ (K : Nat) (W : World), (binOp .neq 129 (.func (.func K) #[] #[]) .nilFunc).run Tryz.prog W = .ok (.bool true) W := fun _ _ => rfl
  go_enter Tryz.func67, Tryz.ntmps67
  go_wp2_with (first
    | (go_at_call 63; refine hl.mono ?_; rintro e w1 ⟨rfl, r1, f1⟩; have d7 := blk_cell r1 7; have e7 := blk_free r1 7; simp [Rd.cells] at d7; have R1 := hid r1; have F1 := hid f1; have hM1 := hid (hM.fr f1 (by simpa using Ne.symm hge)); clear r1 f1)
    | (go_at_call 40; refine (hd.ok _ (hM1.out.fr ((Fr.refl [g] w1).setCell (.inl (by simp)) _) (by simpa using Ne.symm hge)) (by omega)).mono ?_; rintro e w' ⟨rfl, n, rfl⟩)
    | (go_at_call 38; refine (all_isNam (bs nm) _ (by rw [size_bs]; unfold maxLen; omega)).mono ?_; rintro e w' ⟨rfl, rfl⟩; rw [tl_bs])
    | (go_at_call 93; refine (counts_ok _).mono ?_; rintro e w3 ⟨b, rfl, hb, m3, f3⟩; have M3 := hid m3; have F3 := hid f3; clear m3 f3)
    | (go_at_call 94; refine (low_ok (bs nm) _ (by rw [size_bs]; omega) (.inr (by rw [tl_bs]; exact h4))).mono ?_; rintro e w4 ⟨rfl, hb4⟩; rw [tl_bs]; have F4 := hid (Fr.of_below hb4 []); have hlook := (M3.out.fr F4.out (by simp)).look strKey Tryz.underlying130 (z := .nilFunc) (by kernel_rfl) (keyS (low nm) (by rw [show (low nm).length = nm.length by unfold low; simp]; unfold maxLen; omega)) _ (cntD_at (low nm) .nilFunc rfl); rw [hfn] at hlook; clear hb4))
  go_ret
  have hcn : countS (low nm) (trim vl) y.len y.close = some (y.len, y.close) := by
    unfold cntFn at hfn
    unfold countS
    split at hfn
    · cases hfn
    · split at hfn
      · cases hfn
      · split at hfn
        · cases hfn
        · rename_i a b c
          rw [if_neg a, if_neg b, if_neg c]
  have hh : hdrS s y.hd y.len y.close = some (y.len, y.close) := by rw [HN.out, hcn]
  have F7 : Fr [g] W w4 := (F1.out.trans (((Fr.refl [g] w1).setCell (.inl (by simp)) _).drewN n)).then (F3.out.trans F4.out) (by simp)
  have r7 := RdAt.fr R1.out.inc_hd ((((Fr.refl [] _).drewN n).trans F3.out).trans F4.out) (by simp)
  have hg1 : y.at_ + s.length + 2 ≤ buf.length := by have := hI.1; simp at g1; omega
  refine ⟨_, _, rfl, ⟨_, _, CC.out.to EE.out F7 r7, .inr (.inl ⟨rfl, rfl, h1, qs, ⟨hg1, hI.2.1, hI.2.2.1, hI.2.2.2.1, hI.2.2.2.2.1, hI.2.2.2.2.2⟩, ?_⟩)⟩, ?_⟩
  · rw [HP.out, hdrs_yes EL.out hne hh]
  · show buf.length - (y.at_ + s.length + 2) + 2 < _
    omega

set_option maxHeartbeats 4000000 in
theorem header_bad_cl (H0 H : RO) (w W : World) (g : Nat) (bv : Value) (buf s nm vl : List UInt8) (ok : Bool) (y : Rd) (qs : List (List UInt8 × List UInt8)) (E : NxE H0 w g bv buf) (hC : NxC H0 w g bv y H W) (hI : HdI buf y H qs) (hhd : y.hd ≤ 32)
    (hp : parse buf = hdrs buf y.at_ y.hd y.len ⟨y.m, y.p, qs, y.close, []⟩) (e : lineS (buf.drop y.at_) = .got s) (hne : s ≠ []) (hd : Hdr s nm vl ok) (hw : ok = true ∧ y.hd + 1 ≤ 32 ∧ 1 ≤ nm.length ∧ nm.length ≤ 64 ∧ nm.all isNam = true)
    (hfn : cntFn (low nm) = .func (.func 114) #[] #[]) (hcall : ∀ (w5 : World) (x : Rd), RdAt w5 g bv x → Calls Tryz.prog 114 #[.pointer (some ⟨g, 0, none⟩), .string (bs (trim vl))] w5 (CntPost w5 g bv x (low nm) (trim vl))) (hcn : countS (low nm) (trim vl) y.len y.close = none) :
    Calls Tryz.prog 67 #[.pointer (some ⟨g, 0, none⟩)] W (StPost H0 w g bv buf (buf.length - y.at_ + 2)) := by
  have EE := hid E
  have CC := hid hC
  have hM := hC.mx E
  have hB := hC.byt E
  have hr := hC.rd
  have hs := E.small
  have hE := hC.env E
  have hno := hC.none E
  have hge := hE.ne hno
  have hl := line_got W g bv y buf hr hM hB hI.1 hs e
  obtain ⟨g1, g2, g3, g4⟩ := lineS_got e
  have HP := hid hp
  have EL := hid e
  have hln := hd.ln
  have hlv := hd.lv
  have hz := size_bs nm
  have hse : ((bs s).toList == []) = false := by rw [toList_tl, tl_bs]; cases s with | nil => exact absurd rfl hne | cons c r => rfl
  have HNO := hid hno
  clear E hC hB hr g2 e hp hE hno
  have HN := hid (hd.yes (len := y.len) (close := y.close) hw)
  obtain ⟨rfl, h1, h2, h3, h4⟩ := hw
  have hnf1 : ∀ W : World, (binOp .neq 129 .nilFunc .nilFunc).run Tryz.prog W = .ok (.bool false) W := fun _ => rfl
  have hnf2 : ∀ (K : Nat) (W : World), (binOp .neq 129 (.func (.func K) #[] #[]) .nilFunc).run Tryz.prog W = .ok (.bool true) W := fun _ _ => rfl
  go_enter Tryz.func67, Tryz.ntmps67
  go_wp2_with (first
    | (go_at_call 63; refine hl.mono ?_; rintro e w1 ⟨rfl, r1, f1⟩; have d7 := blk_cell r1 7; have e7 := blk_free r1 7; simp [Rd.cells] at d7; have R1 := hid r1; have F1 := hid f1; have hM1 := hid (hM.fr f1 (by simpa using Ne.symm hge)); clear r1 f1)
    | (go_at_call 40; refine (hd.ok _ (hM1.out.fr ((Fr.refl [g] w1).setCell (.inl (by simp)) _) (by simpa using Ne.symm hge)) (by omega)).mono ?_; rintro e w' ⟨rfl, n, rfl⟩)
    | (go_at_call 38; refine (all_isNam (bs nm) _ (by rw [size_bs]; unfold maxLen; omega)).mono ?_; rintro e w' ⟨rfl, rfl⟩; rw [tl_bs])
    | (go_at_call 93; refine (counts_ok _).mono ?_; rintro e w3 ⟨b, rfl, hb, m3, f3⟩; have M3 := hid m3; have F3 := hid f3; clear m3 f3)
    | (go_at_call 94; refine (low_ok (bs nm) _ (by rw [size_bs]; omega) (.inr (by rw [tl_bs]; exact h4))).mono ?_; rintro e w4 ⟨rfl, hb4⟩; rw [tl_bs]; have F4 := hid (Fr.of_below hb4 []); have hlook := (M3.out.fr F4.out (by simp)).look strKey Tryz.underlying130 (z := .nilFunc) (by kernel_rfl) (keyS (low nm) (by rw [show (low nm).length = nm.length by unfold low; simp]; unfold maxLen; omega)) _ (cntD_at (low nm) .nilFunc rfl); rw [hfn] at hlook; clear hb4)
    | (go_at_call 95; refine (trim_ok (bs vl) _ (by rw [size_bs]; omega)).mono ?_; rintro e w5 ⟨rfl, hb5⟩; rw [tl_bs]; have F5 := hid (Fr.of_below hb5 []); clear hb5)
    | (go_at_call 66; refine (wrong_ok _ g bv _ R6.out 400).mono ?_; rintro e w2 ⟨rfl, r2, f2⟩; have R2 := hid r2; have F2 := hid f2; clear r2 f2)
    | (go_at_call 114; refine (hcall _ _ (RdAt.fr R1.out.inc_hd ((((Fr.refl [] _).drewN n).trans F3.out).trans (F4.out.trans F5.out)) (by simp))).mono ?_; rintro e w6 ⟨f6, h6⟩; rw [hcn] at h6; obtain ⟨rfl, r6⟩ := h6; have F6 := hid f6; have R6 := hid r6; clear f6 r6))
  go_ret
  have hh : hdrS s y.hd y.len y.close = none := by rw [HN.out, hcn]
  exact hd_fault EE.out CC.out EL.out hne hh HP.out ((((F1.out.trans (((Fr.refl [g] w1).setCell (.inl (by simp)) _).drewN n)).then (F3.out.trans (F4.out.trans F5.out)) (by simp)).trans F6.out).trans F2.out) R2.out rfl
set_option maxHeartbeats 4000000 in
theorem header_good_cl (H0 H : RO) (w W : World) (g : Nat) (bv : Value) (buf s nm vl : List UInt8) (ok : Bool) (y : Rd) (qs : List (List UInt8 × List UInt8)) (E : NxE H0 w g bv buf) (hC : NxC H0 w g bv y H W) (hI : HdI buf y H qs) (hhd : y.hd ≤ 32)
    (hp : parse buf = hdrs buf y.at_ y.hd y.len ⟨y.m, y.p, qs, y.close, []⟩) (e : lineS (buf.drop y.at_) = .got s) (hne : s ≠ []) (hd : Hdr s nm vl ok) (hw : ok = true ∧ y.hd + 1 ≤ 32 ∧ 1 ≤ nm.length ∧ nm.length ≤ 64 ∧ nm.all isNam = true)
    (hfn : cntFn (low nm) = .func (.func 114) #[] #[]) (hcall : ∀ (w5 : World) (x : Rd), RdAt w5 g bv x → Calls Tryz.prog 114 #[.pointer (some ⟨g, 0, none⟩), .string (bs (trim vl))] w5 (CntPost w5 g bv x (low nm) (trim vl))) (l2 : Int) (c2 : Bool) (hcn : countS (low nm) (trim vl) y.len y.close = some (l2, c2)) :
    Calls Tryz.prog 67 #[.pointer (some ⟨g, 0, none⟩)] W (StPost H0 w g bv buf (buf.length - y.at_ + 2)) := by
  have EE := hid E
  have CC := hid hC
  have hM := hC.mx E
  have hB := hC.byt E
  have hr := hC.rd
  have hs := E.small
  have hE := hC.env E
  have hno := hC.none E
  have hge := hE.ne hno
  have hl := line_got W g bv y buf hr hM hB hI.1 hs e
  obtain ⟨g1, g2, g3, g4⟩ := lineS_got e
  have HP := hid hp
  have EL := hid e
  have hln := hd.ln
  have hlv := hd.lv
  have hz := size_bs nm
  have hse : ((bs s).toList == []) = false := by rw [toList_tl, tl_bs]; cases s with | nil => exact absurd rfl hne | cons c r => rfl
  have HNO := hid hno
  clear E hC hB hr g2 e hp hE hno
  have HN := hid (hd.yes (len := y.len) (close := y.close) hw)
  obtain ⟨rfl, h1, h2, h3, h4⟩ := hw
  have hnf1 : ∀ W : World, (binOp .neq 129 .nilFunc .nilFunc).run Tryz.prog W = .ok (.bool false) W := fun _ => rfl
  have hnf2 : ∀ (K : Nat) (W : World), (binOp .neq 129 (.func (.func K) #[] #[]) .nilFunc).run Tryz.prog W = .ok (.bool true) W := fun _ _ => rfl
  go_enter Tryz.func67, Tryz.ntmps67
  go_wp2_with (first
    | (go_at_call 63; refine hl.mono ?_; rintro e w1 ⟨rfl, r1, f1⟩; have d7 := blk_cell r1 7; have e7 := blk_free r1 7; simp [Rd.cells] at d7; have R1 := hid r1; have F1 := hid f1; have hM1 := hid (hM.fr f1 (by simpa using Ne.symm hge)); clear r1 f1)
    | (go_at_call 40; refine (hd.ok _ (hM1.out.fr ((Fr.refl [g] w1).setCell (.inl (by simp)) _) (by simpa using Ne.symm hge)) (by omega)).mono ?_; rintro e w' ⟨rfl, n, rfl⟩)
    | (go_at_call 38; refine (all_isNam (bs nm) _ (by rw [size_bs]; unfold maxLen; omega)).mono ?_; rintro e w' ⟨rfl, rfl⟩; rw [tl_bs])
    | (go_at_call 93; refine (counts_ok _).mono ?_; rintro e w3 ⟨b, rfl, hb, m3, f3⟩; have M3 := hid m3; have F3 := hid f3; clear m3 f3)
    | (go_at_call 94; refine (low_ok (bs nm) _ (by rw [size_bs]; omega) (.inr (by rw [tl_bs]; exact h4))).mono ?_; rintro e w4 ⟨rfl, hb4⟩; rw [tl_bs]; have F4 := hid (Fr.of_below hb4 []); have hlook := (M3.out.fr F4.out (by simp)).look strKey Tryz.underlying130 (z := .nilFunc) (by kernel_rfl) (keyS (low nm) (by rw [show (low nm).length = nm.length by unfold low; simp]; unfold maxLen; omega)) _ (cntD_at (low nm) .nilFunc rfl); rw [hfn] at hlook; clear hb4)
    | (go_at_call 95; refine (trim_ok (bs vl) _ (by rw [size_bs]; omega)).mono ?_; rintro e w5 ⟨rfl, hb5⟩; rw [tl_bs]; have F5 := hid (Fr.of_below hb5 []); clear hb5)
    | (go_at_call 66; refine (wrong_ok _ g bv _ R6.out 400).mono ?_; rintro e w2 ⟨rfl, r2, f2⟩; have R2 := hid r2; have F2 := hid f2; clear r2 f2)
    | (go_at_call 114; refine (hcall _ _ (RdAt.fr R1.out.inc_hd ((((Fr.refl [] _).drewN n).trans F3.out).trans (F4.out.trans F5.out)) (by simp))).mono ?_; rintro e w6 ⟨f6, h6⟩; rw [hcn] at h6; obtain ⟨rfl, r6⟩ := h6; have F6 := hid f6; have R6 := hid r6; clear f6 r6))
  go_ret
  have hh : hdrS s y.hd y.len y.close = some (l2, c2) := by rw [HN.out, hcn]
  have F7 : Fr [g] W w6 := ((F1.out.trans (((Fr.refl [g] w1).setCell (.inl (by simp)) _).drewN n)).then (F3.out.trans (F4.out.trans F5.out)) (by simp)).trans F6.out
  have hg1 : y.at_ + s.length + 2 ≤ buf.length := by have := hI.1; simp at g1; omega
  have hl2 := countS_len hcn hI.2.2.2.2.1 hI.2.2.2.2.2
  refine ⟨_, _, rfl, ⟨_, _, CC.out.to EE.out F7 R6.out, .inr (.inl ⟨rfl, rfl, h1, qs, ⟨hg1, hI.2.1, hI.2.2.1, hI.2.2.2.1, hl2.1, hl2.2⟩, ?_⟩)⟩, ?_⟩
  · rw [HP.out, hdrs_yes EL.out hne hh]
  · show buf.length - (y.at_ + s.length + 2) + 2 < _
    omega

set_option maxHeartbeats 4000000 in
theorem header_bad_te (H0 H : RO) (w W : World) (g : Nat) (bv : Value) (buf s nm vl : List UInt8) (ok : Bool) (y : Rd) (qs : List (List UInt8 × List UInt8)) (E : NxE H0 w g bv buf) (hC : NxC H0 w g bv y H W) (hI : HdI buf y H qs) (hhd : y.hd ≤ 32)
    (hp : parse buf = hdrs buf y.at_ y.hd y.len ⟨y.m, y.p, qs, y.close, []⟩) (e : lineS (buf.drop y.at_) = .got s) (hne : s ≠ []) (hd : Hdr s nm vl ok) (hw : ok = true ∧ y.hd + 1 ≤ 32 ∧ 1 ≤ nm.length ∧ nm.length ≤ 64 ∧ nm.all isNam = true)
    (hfn : cntFn (low nm) = .func (.func 115) #[] #[]) (hcall : ∀ (w5 : World) (x : Rd), RdAt w5 g bv x → Calls Tryz.prog 115 #[.pointer (some ⟨g, 0, none⟩), .string (bs (trim vl))] w5 (CntPost w5 g bv x (low nm) (trim vl))) (hcn : countS (low nm) (trim vl) y.len y.close = none) :
    Calls Tryz.prog 67 #[.pointer (some ⟨g, 0, none⟩)] W (StPost H0 w g bv buf (buf.length - y.at_ + 2)) := by
  have EE := hid E
  have CC := hid hC
  have hM := hC.mx E
  have hB := hC.byt E
  have hr := hC.rd
  have hs := E.small
  have hE := hC.env E
  have hno := hC.none E
  have hge := hE.ne hno
  have hl := line_got W g bv y buf hr hM hB hI.1 hs e
  obtain ⟨g1, g2, g3, g4⟩ := lineS_got e
  have HP := hid hp
  have EL := hid e
  have hln := hd.ln
  have hlv := hd.lv
  have hz := size_bs nm
  have hse : ((bs s).toList == []) = false := by rw [toList_tl, tl_bs]; cases s with | nil => exact absurd rfl hne | cons c r => rfl
  have HNO := hid hno
  clear E hC hB hr g2 e hp hE hno
  have HN := hid (hd.yes (len := y.len) (close := y.close) hw)
  obtain ⟨rfl, h1, h2, h3, h4⟩ := hw
  have hnf1 : ∀ W : World, (binOp .neq 129 .nilFunc .nilFunc).run Tryz.prog W = .ok (.bool false) W := fun _ => rfl
  have hnf2 : ∀ (K : Nat) (W : World), (binOp .neq 129 (.func (.func K) #[] #[]) .nilFunc).run Tryz.prog W = .ok (.bool true) W := fun _ _ => rfl
  go_enter Tryz.func67, Tryz.ntmps67
  go_wp2_with (first
    | (go_at_call 63; refine hl.mono ?_; rintro e w1 ⟨rfl, r1, f1⟩; have d7 := blk_cell r1 7; have e7 := blk_free r1 7; simp [Rd.cells] at d7; have R1 := hid r1; have F1 := hid f1; have hM1 := hid (hM.fr f1 (by simpa using Ne.symm hge)); clear r1 f1)
    | (go_at_call 40; refine (hd.ok _ (hM1.out.fr ((Fr.refl [g] w1).setCell (.inl (by simp)) _) (by simpa using Ne.symm hge)) (by omega)).mono ?_; rintro e w' ⟨rfl, n, rfl⟩)
    | (go_at_call 38; refine (all_isNam (bs nm) _ (by rw [size_bs]; unfold maxLen; omega)).mono ?_; rintro e w' ⟨rfl, rfl⟩; rw [tl_bs])
    | (go_at_call 93; refine (counts_ok _).mono ?_; rintro e w3 ⟨b, rfl, hb, m3, f3⟩; have M3 := hid m3; have F3 := hid f3; clear m3 f3)
    | (go_at_call 94; refine (low_ok (bs nm) _ (by rw [size_bs]; omega) (.inr (by rw [tl_bs]; exact h4))).mono ?_; rintro e w4 ⟨rfl, hb4⟩; rw [tl_bs]; have F4 := hid (Fr.of_below hb4 []); have hlook := (M3.out.fr F4.out (by simp)).look strKey Tryz.underlying130 (z := .nilFunc) (by kernel_rfl) (keyS (low nm) (by rw [show (low nm).length = nm.length by unfold low; simp]; unfold maxLen; omega)) _ (cntD_at (low nm) .nilFunc rfl); rw [hfn] at hlook; clear hb4)
    | (go_at_call 95; refine (trim_ok (bs vl) _ (by rw [size_bs]; omega)).mono ?_; rintro e w5 ⟨rfl, hb5⟩; rw [tl_bs]; have F5 := hid (Fr.of_below hb5 []); clear hb5)
    | (go_at_call 66; refine (wrong_ok _ g bv _ R6.out 400).mono ?_; rintro e w2 ⟨rfl, r2, f2⟩; have R2 := hid r2; have F2 := hid f2; clear r2 f2)
    | (go_at_call 115; refine (hcall _ _ (RdAt.fr R1.out.inc_hd ((((Fr.refl [] _).drewN n).trans F3.out).trans (F4.out.trans F5.out)) (by simp))).mono ?_; rintro e w6 ⟨f6, h6⟩; rw [hcn] at h6; obtain ⟨rfl, r6⟩ := h6; have F6 := hid f6; have R6 := hid r6; clear f6 r6))
  go_ret
  have hh : hdrS s y.hd y.len y.close = none := by rw [HN.out, hcn]
  exact hd_fault EE.out CC.out EL.out hne hh HP.out ((((F1.out.trans (((Fr.refl [g] w1).setCell (.inl (by simp)) _).drewN n)).then (F3.out.trans (F4.out.trans F5.out)) (by simp)).trans F6.out).trans F2.out) R2.out rfl
set_option maxHeartbeats 4000000 in
theorem header_good_co (H0 H : RO) (w W : World) (g : Nat) (bv : Value) (buf s nm vl : List UInt8) (ok : Bool) (y : Rd) (qs : List (List UInt8 × List UInt8)) (E : NxE H0 w g bv buf) (hC : NxC H0 w g bv y H W) (hI : HdI buf y H qs) (hhd : y.hd ≤ 32)
    (hp : parse buf = hdrs buf y.at_ y.hd y.len ⟨y.m, y.p, qs, y.close, []⟩) (e : lineS (buf.drop y.at_) = .got s) (hne : s ≠ []) (hd : Hdr s nm vl ok) (hw : ok = true ∧ y.hd + 1 ≤ 32 ∧ 1 ≤ nm.length ∧ nm.length ≤ 64 ∧ nm.all isNam = true)
    (hfn : cntFn (low nm) = .func (.func 116) #[] #[]) (hcall : ∀ (w5 : World) (x : Rd), RdAt w5 g bv x → Calls Tryz.prog 116 #[.pointer (some ⟨g, 0, none⟩), .string (bs (trim vl))] w5 (CntPost w5 g bv x (low nm) (trim vl))) (l2 : Int) (c2 : Bool) (hcn : countS (low nm) (trim vl) y.len y.close = some (l2, c2)) :
    Calls Tryz.prog 67 #[.pointer (some ⟨g, 0, none⟩)] W (StPost H0 w g bv buf (buf.length - y.at_ + 2)) := by
  have EE := hid E
  have CC := hid hC
  have hM := hC.mx E
  have hB := hC.byt E
  have hr := hC.rd
  have hs := E.small
  have hE := hC.env E
  have hno := hC.none E
  have hge := hE.ne hno
  have hl := line_got W g bv y buf hr hM hB hI.1 hs e
  obtain ⟨g1, g2, g3, g4⟩ := lineS_got e
  have HP := hid hp
  have EL := hid e
  have hln := hd.ln
  have hlv := hd.lv
  have hz := size_bs nm
  have hse : ((bs s).toList == []) = false := by rw [toList_tl, tl_bs]; cases s with | nil => exact absurd rfl hne | cons c r => rfl
  have HNO := hid hno
  clear E hC hB hr g2 e hp hE hno
  have HN := hid (hd.yes (len := y.len) (close := y.close) hw)
  obtain ⟨rfl, h1, h2, h3, h4⟩ := hw
  have hnf1 : ∀ W : World, (binOp .neq 129 .nilFunc .nilFunc).run Tryz.prog W = .ok (.bool false) W := fun _ => rfl
  have hnf2 : ∀ (K : Nat) (W : World), (binOp .neq 129 (.func (.func K) #[] #[]) .nilFunc).run Tryz.prog W = .ok (.bool true) W := fun _ _ => rfl
  go_enter Tryz.func67, Tryz.ntmps67
  go_wp2_with (first
    | (go_at_call 63; refine hl.mono ?_; rintro e w1 ⟨rfl, r1, f1⟩; have d7 := blk_cell r1 7; have e7 := blk_free r1 7; simp [Rd.cells] at d7; have R1 := hid r1; have F1 := hid f1; have hM1 := hid (hM.fr f1 (by simpa using Ne.symm hge)); clear r1 f1)
    | (go_at_call 40; refine (hd.ok _ (hM1.out.fr ((Fr.refl [g] w1).setCell (.inl (by simp)) _) (by simpa using Ne.symm hge)) (by omega)).mono ?_; rintro e w' ⟨rfl, n, rfl⟩)
    | (go_at_call 38; refine (all_isNam (bs nm) _ (by rw [size_bs]; unfold maxLen; omega)).mono ?_; rintro e w' ⟨rfl, rfl⟩; rw [tl_bs])
    | (go_at_call 93; refine (counts_ok _).mono ?_; rintro e w3 ⟨b, rfl, hb, m3, f3⟩; have M3 := hid m3; have F3 := hid f3; clear m3 f3)
    | (go_at_call 94; refine (low_ok (bs nm) _ (by rw [size_bs]; omega) (.inr (by rw [tl_bs]; exact h4))).mono ?_; rintro e w4 ⟨rfl, hb4⟩; rw [tl_bs]; have F4 := hid (Fr.of_below hb4 []); have hlook := (M3.out.fr F4.out (by simp)).look strKey Tryz.underlying130 (z := .nilFunc) (by kernel_rfl) (keyS (low nm) (by rw [show (low nm).length = nm.length by unfold low; simp]; unfold maxLen; omega)) _ (cntD_at (low nm) .nilFunc rfl); rw [hfn] at hlook; clear hb4)
    | (go_at_call 95; refine (trim_ok (bs vl) _ (by rw [size_bs]; omega)).mono ?_; rintro e w5 ⟨rfl, hb5⟩; rw [tl_bs]; have F5 := hid (Fr.of_below hb5 []); clear hb5)
    | (go_at_call 66; refine (wrong_ok _ g bv _ R6.out 400).mono ?_; rintro e w2 ⟨rfl, r2, f2⟩; have R2 := hid r2; have F2 := hid f2; clear r2 f2)
    | (go_at_call 116; refine (hcall _ _ (RdAt.fr R1.out.inc_hd ((((Fr.refl [] _).drewN n).trans F3.out).trans (F4.out.trans F5.out)) (by simp))).mono ?_; rintro e w6 ⟨f6, h6⟩; rw [hcn] at h6; obtain ⟨rfl, r6⟩ := h6; have F6 := hid f6; have R6 := hid r6; clear f6 r6))
  go_ret
  have hh : hdrS s y.hd y.len y.close = some (l2, c2) := by rw [HN.out, hcn]
  have F7 : Fr [g] W w6 := ((F1.out.trans (((Fr.refl [g] w1).setCell (.inl (by simp)) _).drewN n)).then (F3.out.trans (F4.out.trans F5.out)) (by simp)).trans F6.out
  have hg1 : y.at_ + s.length + 2 ≤ buf.length := by have := hI.1; simp at g1; omega
  have hl2 := countS_len hcn hI.2.2.2.2.1 hI.2.2.2.2.2
  refine ⟨_, _, rfl, ⟨_, _, CC.out.to EE.out F7 R6.out, .inr (.inl ⟨rfl, rfl, h1, qs, ⟨hg1, hI.2.1, hI.2.2.1, hI.2.2.2.1, hl2.1, hl2.2⟩, ?_⟩)⟩, ?_⟩
  · rw [HP.out, hdrs_yes EL.out hne hh]
  · show buf.length - (y.at_ + s.length + 2) + 2 < _
    omega

theorem header_line (H0 H : RO) (w W : World) (g : Nat) (bv : Value) (buf s : List UInt8) (y : Rd) (qs : List (List UInt8 × List UInt8)) (E : NxE H0 w g bv buf) (hC : NxC H0 w g bv y H W) (hI : HdI buf y H qs) (hhd : y.hd ≤ 32)
    (hp : parse buf = hdrs buf y.at_ y.hd y.len ⟨y.m, y.p, qs, y.close, []⟩) (e : lineS (buf.drop y.at_) = .got s) (hne : s ≠ []) :
    Calls Tryz.prog 67 #[.pointer (some ⟨g, 0, none⟩)] W (StPost H0 w g bv buf (buf.length - y.at_ + 2)) := by
  obtain ⟨_, _, g3, g4⟩ := lineS_got e
  obtain ⟨nm, vl, ok, hd⟩ := hdr_of s g3
  have hts : (bs (trim vl)).size ≤ 20000 := by rw [size_bs]; have := trim_len vl; have := hd.lv; omega
  by_cases hw : ok = true ∧ y.hd + 1 ≤ 32 ∧ 1 ≤ nm.length ∧ nm.length ≤ 64 ∧ nm.all isNam = true
  · by_cases k1 : low nm = hCL
    · have hfn : cntFn (low nm) = .func (.func 114) #[] #[] := by unfold cntFn; rw [if_pos k1]
      have hcall : ∀ (w5 : World) (x : Rd), RdAt w5 g bv x → Calls Tryz.prog 114 #[.pointer (some ⟨g, 0, none⟩), .string (bs (trim vl))] w5 (CntPost w5 g bv x (low nm) (trim vl)) := fun w5 x hr => by
        rw [k1]
        exact cl_ok w5 g bv x hr (bs (trim vl)) hts
      cases hcn : countS (low nm) (trim vl) y.len y.close with
      | none => exact header_bad_cl H0 H w W g bv buf s nm vl ok y qs E hC hI hhd hp e hne hd hw hfn hcall hcn
      | some lc => exact header_good_cl H0 H w W g bv buf s nm vl ok y qs E hC hI hhd hp e hne hd hw hfn hcall lc.1 lc.2 hcn
    · by_cases k2 : low nm = hTE
      · have hfn : cntFn (low nm) = .func (.func 115) #[] #[] := by unfold cntFn; rw [if_neg k1, if_pos k2]
        have hcall : ∀ (w5 : World) (x : Rd), RdAt w5 g bv x → Calls Tryz.prog 115 #[.pointer (some ⟨g, 0, none⟩), .string (bs (trim vl))] w5 (CntPost w5 g bv x (low nm) (trim vl)) := fun w5 x hr => by
          rw [k2]
          exact te_ok w5 g bv x hr (bs (trim vl))
        cases hcn : countS (low nm) (trim vl) y.len y.close with
        | none => exact header_bad_te H0 H w W g bv buf s nm vl ok y qs E hC hI hhd hp e hne hd hw hfn hcall hcn
        | some lc => rw [k2] at hcn; unfold countS at hcn; rw [if_neg (by simp [hCL, hTE]), if_pos rfl] at hcn; cases hcn
      · by_cases k3 : low nm = hCO
        · have hfn : cntFn (low nm) = .func (.func 116) #[] #[] := by unfold cntFn; rw [if_neg k1, if_neg k2, if_pos k3]
          have hcall : ∀ (w5 : World) (x : Rd), RdAt w5 g bv x → Calls Tryz.prog 116 #[.pointer (some ⟨g, 0, none⟩), .string (bs (trim vl))] w5 (CntPost w5 g bv x (low nm) (trim vl)) := fun w5 x hr => by
            rw [k3]
            exact co_ok w5 g bv x hr (bs (trim vl)) hts (trim_lin hd.lin)
          cases hcn : countS (low nm) (trim vl) y.len y.close with
          | none => rw [k3, countCO] at hcn; cases hcn
          | some lc => exact header_good_co H0 H w W g bv buf s nm vl ok y qs E hC hI hhd hp e hne hd hw hfn hcall lc.1 lc.2 hcn
        · exact header_nil H0 H w W g bv buf s nm vl ok y qs E hC hI hhd hp e hne hd hw (by unfold cntFn; rw [if_neg k1, if_neg k2, if_neg k3])
  · exact header_wrong H0 H w W g bv buf s nm vl ok y qs E hC hI hhd hp e hne hd hw

set_option maxHeartbeats 4000000 in
theorem header_ok (H0 H : RO) (w W : World) (g : Nat) (bv : Value) (buf : List UInt8) (y : Rd) (qs : List (List UInt8 × List UInt8)) (E : NxE H0 w g bv buf) (hC : NxC H0 w g bv y H W) (hI : HdI buf y H qs) (hhd : y.hd ≤ 32)
    (hp : parse buf = hdrs buf y.at_ y.hd y.len ⟨y.m, y.p, qs, y.close, []⟩) :
    Calls Tryz.prog 67 #[.pointer (some ⟨g, 0, none⟩)] W (StPost H0 w g bv buf (buf.length - y.at_ + 2)) := by
  cases e : lineS (buf.drop y.at_) with
  | more =>
    have hl := line_more W g bv y buf hC.rd (hC.mx E) (hC.byt E) hI.1 E.small e
    have HP := hid (hp.trans (hdrs_more e))
    have EE := hid E
    have CC := hid hC
    clear E hC hp
    go_enter Tryz.func67, Tryz.ntmps67
    go_wp2_with (first | (go_at_call 63; refine hl.mono ?_; rintro e w1 ⟨rfl, r1, f1⟩; have R1 := hid r1; have F1 := hid f1; clear r1 f1))
    go_ret
    exact ⟨_, _, rfl, ⟨_, _, CC.out.to EE.out F1.out R1.out, .inr (.inr (.inr ⟨rfl, rfl, fin_more HP.out hI.2.1 hI.2.2.1⟩))⟩, by omega⟩
  | bad =>
    have hl := line_bad W g bv y buf hC.rd (hC.mx E) (hC.byt E) hI.1 E.small e
    have HP := hid (hp.trans (hdrs_bad e))
    have EE := hid E
    have CC := hid hC
    clear E hC hp
    go_enter Tryz.func67, Tryz.ntmps67
    go_wp2_with (first | (go_at_call 63; refine hl.mono ?_; rintro e w1 ⟨rfl, ⟨k, r1⟩, f1⟩; have R1 := hid r1; have F1 := hid f1; clear r1 f1))
    go_ret
    exact ⟨_, _, rfl, ⟨_, _, CC.out.to EE.out F1.out R1.out, .inr (.inr (.inr ⟨rfl, rfl, fin_fault HP.out rfl (by decide)⟩))⟩, by omega⟩
  | got s =>
    by_cases hne : s = []
    · subst hne
      have hl := line_got W g bv y buf hC.rd (hC.mx E) (hC.byt E) hI.1 E.small e
      have HP := hid (hp.trans (hdrs_end e))
      have EE := hid E
      have CC := hid hC
      have hg := (lineS_got e).1
      have hse : ((bs []).toList == []) = true := by rw [toList_tl, tl_bs]; rfl
      clear E hC hp
      go_enter Tryz.func67, Tryz.ntmps67
      go_wp2_with (first | (go_at_call 63; refine hl.mono ?_; rintro e w1 ⟨rfl, r1, f1⟩; have R1 := hid r1; have F1 := hid f1; clear r1 f1))
      go_ret
      have hg1 : y.at_ + 0 + 2 ≤ buf.length := by have := hI.1; simp at hg; omega
      exact ⟨_, _, rfl, ⟨_, _, CC.out.to EE.out F1.out R1.out, .inr (.inr (.inl ⟨rfl, rfl, qs, ⟨hg1, hI.2.1, hI.2.2.1, hI.2.2.2.1, hI.2.2.2.2.1, hI.2.2.2.2.2⟩, HP.out⟩))⟩, by omega⟩
    · exact header_line H0 H w W g bv buf s y qs E hC hI hhd hp e hne
end Go.Proofs.YtpofpgejhnlfjaaGreatDoor
