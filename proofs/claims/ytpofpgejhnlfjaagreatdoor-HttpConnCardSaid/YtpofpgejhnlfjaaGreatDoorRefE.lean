/- The walks of the reference's 'line', 'header' and 'first'. -/
import Derived.Test.YtpofpgejhnlfjaaGreatDoorRefD
import Derived.Test.YtpofpgejhnlfjaaGreatDoorHttpK
set_option linter.unusedVariables false
set_option linter.unusedSimpArgs false
set_option maxRecDepth 100000
namespace Go.Proofs.YtpofpgejhnlfjaaGreatDoor
open Go Go.RowKit Bpm Bph

theorem crlf_step {l : List UInt8} {k : Nat} (h : k + 1 < l.length) (hn : ¬ (l[k] = 13 ∧ l[k + 1] = 10)) (hc : crlf l = (crlf (l.drop k)).map (· + k)) : crlf l = (crlf (l.drop (k + 1))).map (· + (k + 1)) := by
  rw [hc, List.drop_eq_getElem_cons (show k < l.length by omega), crlf, if_neg, Option.map_map]
  · congr 1; funext x; simp; omega
  · rw [List.head?_drop, List.getElem?_eq_getElem h]
    intro hx
    exact hn ⟨hx.1, by simpa using hx.2⟩
theorem crlf_here {l : List UInt8} {k : Nat} (h : k + 1 < l.length) (h1 : l[k] = 13) (h2 : l[k + 1] = 10) (hc : crlf l = (crlf (l.drop k)).map (· + k)) : crlf l = some k := by
  rw [hc, List.drop_eq_getElem_cons (show k < l.length by omega), crlf, if_pos]
  · simp
  · rw [List.head?_drop, List.getElem?_eq_getElem h]
    exact ⟨h1, by rw [h2]⟩
theorem crlf_short {l : List UInt8} {k : Nat} (h : ¬ k + 1 < l.length) (hc : crlf l = (crlf (l.drop k)).map (· + k)) : crlf l = none := by
  cases e : crlf (l.drop k) with
  | none => rw [hc, e]; rfl
  | some n => have := (crlf_some e).1; simp at this; omega
theorem refLine_here {l : List UInt8} {k : Nat} (h : crlf l = some k) (hk : k ≤ 4096) : refLine l = (l.take k, (k : Int) + 2) := by
  unfold refLine; rw [h]; simp only; rw [if_pos hk]
theorem refLine_no {l : List UInt8} (h : crlf l = none) : refLine l = ([], if 4098 ≤ l.length then -1 else 0) := by
  unfold refLine; rw [h]; simp only; split <;> rfl
theorem refLine_far {l : List UInt8} {k : Nat} (h : k + 1 < l.length) (hk : 4096 < k) (hc : crlf l = (crlf (l.drop k)).map (· + k)) : refLine l = ([], -1) := by
  unfold refLine
  rw [hc]
  cases e : crlf (l.drop k) with
  | none => simp only [Option.map_none]; rw [if_pos (by omega)]
  | some n => simp only [Option.map_some]; rw [if_neg (by omega)]
theorem u8s_get (l : List UInt8) (k : Nat) (h : k < l.length) : (u8s l)[k]? = some (.int .u8 (l[k].toNat : Int)) := by
  unfold u8s
  rw [List.getElem?_map, List.getElem?_eq_getElem h]
  rfl
def LnPost (w : World) (l : List UInt8) (e : Ending) (w' : World) : Prop := e = .returned (.tuple #[.string (bs (refLine l).1), .int .i64 (refLine l).2]) ∧ w = w'
theorem ln_ret {w : World} {l : List UInt8} {s : List UInt8} {n : Int} (h : refLine l = (s, n)) : LnPost w l (.returned (.tuple #[.string (bs s), .int .i64 n])) w := ⟨by rw [h], rfl⟩
theorem byte_eq (c : UInt8) (n : Int) (h0 : 0 ≤ n) (h1 : n < 256) : (c = UInt8.ofNat n.toNat ∧ ((c.toNat : Int) == n) = true) ∨ (c ≠ UInt8.ofNat n.toNat ∧ ((c.toNat : Int) == n) = false) := by
  by_cases h : c = UInt8.ofNat n.toNat
  · exact .inl ⟨h, beq_u8' c n h0 h1 h⟩
  · exact .inr ⟨h, beq_u8 c n h0 h1 h⟩
set_option maxHeartbeats 1000000 in
theorem rline_ok (w : World) (v : Value) (l : List UInt8) (h : BytW w v l) (hl : l.length ≤ 2000000) :
    Calls Tryz.prog 68 #[v] w (LnPost w l) := by
  obtain ⟨A, c, rfl, hlc⟩ := byt_slice h
  have hto := fun k hk => to_cut h rfl hlc k hk
  have HTO := hid hto
  have HB := hid h
  clear h hto
  go_enter Tryz.func68, Tryz.ntmps68
  go_wp2
  go_loop [4] (fun i => ∃ k : Nat, k ≤ 4097 ∧ i = .int .i64 k ∧ crlf l = (crlf (l.drop k)).map (· + k)) (fun i => 4097 - (intOf i).toNat)
  case atStart => exact ⟨0, by omega, rfl, by simp⟩
  case round =>
    obtain ⟨k, hk, rfl, hc⟩ := hrel
    have HC := hid hc
    clear hc
    by_cases hlt : k + 1 < l.length
    · by_cases h96 : k ≤ 4096
      · obtain ⟨b, o, rfl, hbl, hj⟩ := byt_cells HB.out (by rintro rfl; simp at hlt)
        have c0 := hj k (by omega)
        have c1 := hj (k + 1) hlt
        rw [u8s_get l k (by omega)] at c0
        rw [u8s_get l (k + 1) hlt] at c1
        clear hj
        rcases byte_eq l[k] 13 (by omega) (by omega) with ⟨h13, b13⟩ | ⟨h13, b13⟩
        · rcases byte_eq l[k + 1] 10 (by omega) (by omega) with ⟨h10, b10⟩ | ⟨h10, b10⟩
          · have H1 := hid (refLine_here (crlf_here hlt h13 h10 HC.out) h96)
            obtain ⟨hcut, hB2⟩ := HTO.out k (by omega)
            have hcv := convW hB2
            clear h13 h10 hB2
            go_wp2
            go_ret2
            exact ln_ret H1.out
          · have H1 := hid (crlf_step hlt (fun hx => h10 hx.2) HC.out)
            clear h13 h10
            go_wp2
            go_round
            case rel => exact ⟨k + 1, by omega, by go_num, H1.out⟩
            case measure => simp [intOf]; omega
        · have H1 := hid (crlf_step hlt (fun hx => h13 hx.1) HC.out)
          clear h13
          go_wp2
          go_round
          case rel => exact ⟨k + 1, by omega, by go_num, H1.out⟩
          case measure => simp [intOf]; omega
      · have H1 := hid (refLine_far hlt (by omega) HC.out)
        have h98 : 4098 ≤ l.length := by omega
        go_wp2
        go_ret2
        exact ln_ret (s := []) H1.out
    · have H1 := hid (refLine_no (crlf_short hlt HC.out))
      by_cases h98 : 4098 ≤ l.length
      · rw [if_pos h98] at H1
        go_wp2
        go_ret2
        exact ln_ret (s := []) H1.out
      · rw [if_neg h98] at H1
        go_wp2
        go_ret2
        exact ln_ret (s := []) H1.out

/-! ### a header -/
def hdrOk (l : List UInt8) : Prop := (cutB 58 l).2.2 = true ∧ 1 ≤ (cutB 58 l).1.length ∧ (cutB 58 l).1.length ≤ 64 ∧ l.all isLin = true ∧ (cutB 58 l).1.all isNam = true
def HdPost (w : World) (l : List UInt8) (e : Ending) (w' : World) : Prop :=
  Fr [] w w' ∧ ((hdrOk l ∧ e = .returned (.tuple #[.string (bs (low (cutB 58 l).1)), .string (bs (trim (cutB 58 l).2.1)), .bool true])) ∨ (¬ hdrOk l ∧ e = .returned (.tuple #[.string ⟨#[]⟩, .string ⟨#[]⟩, .bool false])))
theorem hd_no {w w' : World} {l : List UInt8} (f : Fr [] w w') (h : ¬ hdrOk l) : HdPost w l (.returned (.tuple #[.string ⟨#[]⟩, .string ⟨#[]⟩, .bool false])) w' := ⟨f, .inr ⟨h, rfl⟩⟩
theorem rhd_ret {Q : Ending → World → Prop} {a : Act} {w : World} {p q e : Value} (hd : a.defers = []) (h2 : a.tmps.getD 2 undef = p) (h3 : a.tmps.getD 3 undef = q) (h4 : a.tmps.getD 4 undef = e) (hQ : Q (.returned (.tuple #[p, q, e])) w) : bodyPost Tryz.prog Tryz.f70 Q .ret a w := by
  refine bodyPost_ret (v := .tuple #[p, q, e]) ?_ hd hQ
  rw [Array.getD_eq_getD_getElem?] at h2 h3 h4
  simp only [results, Tryz.results70]
  simp [h2, h3, h4, go_sem]
theorem rcut_58 (s : ByteArray) (w : World) (h : s.size ≤ 20000) : Calls Tryz.prog 44 #[.string s, .int .u8 58] w (CutPost w 58 (tl s)) := rcut_ok s 58 w (by unfold maxLen; omega)
theorem isNam_def (c : UInt8) : isNam c = (decide (97 ≤ c.toNat) && decide (c.toNat ≤ 122) || (decide (65 ≤ c.toNat) && decide (c.toNat ≤ 90)) || (decide (48 ≤ c.toNat) && decide (c.toNat ≤ 57)) || decide (c.toNat = 45)) := rfl
set_option maxHeartbeats 2000000 in
theorem rheader_ok (s : ByteArray) (w : World) (hs : s.size ≤ 20000) : Calls Tryz.prog 70 #[.string s] w (HdPost w (tl s)) := by
  have hmx : s.size ≤ maxLen := by unfold maxLen; omega
  have hl1 := (cut_len 58 (tl s)).1
  have hl2 := (cut_len 58 (tl s)).2
  rw [tl_len] at hl1 hl2
  have HD := hid (show hdrOk (tl s) = ((cutB 58 (tl s)).2.2 = true ∧ 1 ≤ (cutB 58 (tl s)).1.length ∧ (cutB 58 (tl s)).1.length ≤ 64 ∧ (tl s).all isLin = true ∧ (cutB 58 (tl s)).1.all isNam = true) from rfl)
  go_enter Tryz.func70, Tryz.ntmps70
  go_wp2_with fail
  refine (rcut_58 s _ hs).mono ?_
  rintro e w' ⟨rfl, m, rfl⟩
  have F0 := hid ((Fr.refl [] w).drewN m)
  generalize hn0 : (cutB 58 (tl s)).1 = n at hl1 HD ⊢
  generalize hv0 : (cutB 58 (tl s)).2.1 = v at hl2 HD ⊢
  generalize (cutB 58 (tl s)).2.2 = fnd at HD ⊢
  have HN0 := hid hn0
  have HV0 := hid hv0
  clear hn0 hv0
  generalize w.drewN m = W at F0 ⊢
  have hN : (bs n).size ≤ maxLen := by rw [size_bs]; unfold maxLen; omega
  have hV : (bs v).size ≤ maxLen := by rw [size_bs]; unfold maxLen; omega
  cases fnd with
  | false =>
    go_wp2_with fail
    exact rhd_ret rfl rfl rfl rfl (hd_no F0.out (by rw [HD.out]; simp))
  | true =>
    by_cases h1 : 1 ≤ n.length
    · by_cases h2 : n.length ≤ 64
      · cases h3 : (tl s).all isLin with
        | false =>
          have HD2 := hid (show ¬ hdrOk (tl s) by rw [HD.out, h3]; simp)
          have z1 : (bs n).size = n.length := size_bs n
          go_wp2_with (go_at_call 96; refine (rallowed_ok s _ hmx).mono ?_; rintro e w' ⟨rfl, rfl⟩)
          exact rhd_ret rfl rfl rfl rfl (hd_no F0.out HD2.out)
        | true =>
          have H3 := hid h3
          obtain ⟨t, rfl⟩ : ∃ t, n = tl t := ⟨bs n, rfl⟩
          have z2 := hid (tl_len t)
          rw [tl_len] at h1 h2
          simp only [bs_tl] at hN ⊢
          go_wp2_with (go_at_call 96; refine (rallowed_ok s _ hmx).mono ?_; rintro e w' ⟨rfl, rfl⟩)
          clear h3
          go_loop [8] (fun i => ∃ k : Nat, k ≤ t.size ∧ i = .int .i64 k ∧ ((tl t).take k).all isNam = true) (fun i => t.size - (intOf i).toNat)
          case atStart => exact ⟨0, Nat.zero_le _, rfl, rfl⟩
          case round =>
            obtain ⟨k, hk, rfl, ha⟩ := hrel
            have HA := hid ha
            clear ha
            by_cases hlt : k < t.size
            · have H := hid (all_succ t isNam k hlt)
              cases hn : isNam t[k] with
              | true =>
                have HN := hid hn
                have hn2 : (t[k].toNat ≤ 45 ∧ 45 ≤ t[k].toNat) ∨ (48 ≤ t[k].toNat ∧ t[k].toNat ≤ 57) ∨ (65 ≤ t[k].toNat ∧ t[k].toNat ≤ 90) ∨ (97 ≤ t[k].toNat ∧ t[k].toNat ≤ 122) := by
                  rw [isNam_def] at hn; simp at hn; omega
                clear hn
                rcases hn2 with ⟨g1, g2⟩ | ⟨g1, g2⟩ | ⟨g1, g2⟩ | ⟨g1, g2⟩
                · have b45 : ((t[k].toNat : Int) == 45) = true := by simp; omega
                  go_wp2
                  go_round
                  case rel => exact ⟨k + 1, by omega, by go_num, by rw [H.out, HA.out, HN.out]; rfl⟩
                  case measure => simp [intOf]; omega
                all_goals
                  go_wp2
                  go_round
                  case rel => exact ⟨k + 1, by omega, by go_num, by rw [H.out, HA.out, HN.out]; rfl⟩
                  case measure => simp [intOf]; omega
              | false =>
                have HN := hid (show ¬ hdrOk (tl s) by
                  rw [HD.out]
                  intro hx
                  have := all_no t isNam k hlt (by rw [hn]; rfl)
                  rw [hx.2.2.2.2] at this
                  cases this)
                have b45 : ((t[k].toNat : Int) == 45) = false := by rw [isNam_def] at hn; simp at hn; simp; omega
                have hn2 : (t[k].toNat < 48) ∨ (58 ≤ t[k].toNat ∧ t[k].toNat < 65) ∨ (91 ≤ t[k].toNat ∧ t[k].toNat < 97) ∨ (123 ≤ t[k].toNat) := by
                  rw [isNam_def] at hn; simp at hn; omega
                clear hn
                rcases hn2 with g1 | ⟨g1, g2⟩ | ⟨g1, g2⟩ | g1
                all_goals go_wp2
                all_goals first | exact rhd_ret rfl rfl rfl rfl (hd_no F0.out HN.out) | (exfalso; rename_i hx; simp at hx; omega)
            · have HY := hid (show hdrOk (tl s) by
                rw [HD.out]
                exact ⟨trivial, by rw [tl_len]; exact h1, by rw [tl_len]; exact h2, H3.out, (all_yes t isNam k hlt HA.out).symm⟩)
              go_wp2_with (first | (go_at_call 72; refine (rlower_ok t _ hN).mono ?_; rintro e w1 ⟨rfl, f1⟩; have F1 := hid f1; clear f1) | (go_at_call 97; refine (rtrim_ok _ _ hV).mono ?_; rintro e w' ⟨rfl, rfl⟩; rw [tl_bs]))
              refine rhd_ret rfl rfl rfl rfl ⟨F0.out.trans F1.out, .inl ⟨HY.out, ?_⟩⟩
              rw [HN0.out, HV0.out]
              rfl
      · have HD2 := hid (show ¬ hdrOk (tl s) by rw [HD.out]; simp; omega)
        have z1 : (bs n).size = n.length := size_bs n
        go_wp2_with fail
        exact rhd_ret rfl rfl rfl rfl (hd_no F0.out HD2.out)
    · have HD2 := hid (show ¬ hdrOk (tl s) by rw [HD.out]; simp; omega)
      have z1 : (bs n).size = n.length := size_bs n
      go_wp2_with fail
      exact rhd_ret rfl rfl rfl rfl (hd_no F0.out HD2.out)

/-! ### the first line -/
theorem refFirst_no {l : List UInt8} (h : ¬ ((cutB 32 l).2.2 = true ∧ (cutB 32 (cutB 32 l).2.1).2.2 = true ∧ (cutB 32 (cutB 32 l).2.1).2.1 = ver ∧ 1 ≤ (cutB 32 l).1.length ∧ (cutB 32 l).1.length ≤ 16 ∧ l.all isLin = true ∧ (cutB 32 l).1.all isUp = true)) : refFirst l = none := by
  unfold refFirst
  split
  · rename_i hl
    rw [startS_cut, if_neg]
    rintro ⟨a, b, c, d, e, f⟩
    exact h ⟨a, b, c, d, e, hl, f⟩
  · rfl
theorem refFirst_yes {l : List UInt8} (h : (cutB 32 l).2.2 = true ∧ (cutB 32 (cutB 32 l).2.1).2.2 = true ∧ (cutB 32 (cutB 32 l).2.1).2.1 = ver ∧ 1 ≤ (cutB 32 l).1.length ∧ (cutB 32 l).1.length ≤ 16 ∧ l.all isLin = true ∧ (cutB 32 l).1.all isUp = true) :
    refFirst l = (tgt (cutB 32 (cutB 32 l).2.1).1).map fun x => ⟨(cutB 32 l).1, x.1, x.2, false, []⟩ := by
  obtain ⟨a, b, c, d, e, f, g⟩ := h
  unfold refFirst
  rw [if_pos f, startS_cut, if_pos ⟨a, b, c, d, e, g⟩]
def FiPost (H : RO) (w : World) (l : List UInt8) (e : Ending) (w' : World) : Prop :=
  Fr [] w w' ∧ match refFirst l with
  | none => ∃ m : ByteArray, e = .returned (.tuple #[.agg #[.string m, .string ⟨#[]⟩, .slice none 0 0, .bool false, .slice none 0 0], .bool false])
  | some r => ∃ q H', e = .returned (.tuple #[.agg #[.string (bs r.m), .string (bs r.p), q, .bool false, .slice none 0 0], .bool true]) ∧ Ext H H' w ∧ GoodH H' w' ∧ ParR H' q r.q ∧ r.close = false ∧ r.body = []
theorem fi_no {H : RO} {w w' : World} {l : List UInt8} (m : ByteArray) (h : refFirst l = none) (f : Fr [] w w') : FiPost H w l (.returned (.tuple #[.agg #[.string m, .string ⟨#[]⟩, .slice none 0 0, .bool false, .slice none 0 0], .bool false])) w' :=
  ⟨f, by rw [h]; exact ⟨m, rfl⟩⟩
theorem fi_ret {Q : Ending → World → Prop} {a : Act} {w' : World} {rb : Nat} {b : Value} {v0 v1 v2 v3 v4 : Value} {fr : Nat × Nat} (hd : a.defers = []) (h2 : a.tmps.getD 2 undef = .pointer (some ⟨rb, 0, none⟩)) (h3 : a.tmps.getD 3 undef = b)
    (h : w'.heap[rb]? = some (.cells #[v0, v1, v2, v3, v4] 32 fr)) (hQ : Q (.returned (.tuple #[.agg #[v0, v1, v2, v3, v4], b])) w') : bodyPost Tryz.prog Tryz.f69 Q .ret a w' := by
  have q0 := blk_cell h 0
  have q1 := blk_cell h 1
  have q2 := blk_cell h 2
  have q3 := blk_cell h 3
  have q4 := blk_cell h 4
  simp at q0 q1 q2 q3 q4
  refine bodyPost_ret (v := .tuple #[.agg #[v0, v1, v2, v3, v4], b]) ?_ hd hQ
  rw [Array.getD_eq_getD_getElem?] at h2 h3
  simp only [results, Tryz.results69]
  simp [h2, h3, go_sem, q0, q1, q2, q3, q4]
theorem rcut_32 (s : ByteArray) (w : World) (h : s.size ≤ 20000) : Calls Tryz.prog 44 #[.string s, .int .u8 32] w (CutPost w 32 (tl s)) := rcut_ok s 32 w (by unfold maxLen; omega)
set_option maxHeartbeats 4000000 in
theorem rfirst_ok (H : RO) (s : ByteArray) (w : World) (hs : s.size ≤ 20000) (hG : GoodH H w) : Calls Tryz.prog 69 #[.string s] w (FiPost H w (tl s)) := by
  have hmx : s.size ≤ maxLen := by unfold maxLen; omega
  have HNO := hid (fun h => @refFirst_no (tl s) h)
  have HYES := hid (fun h => @refFirst_yes (tl s) h)
  have GG := hid hG
  have l1 := cut_len 32 (tl s)
  have l2 := cut_len 32 (cutB 32 (tl s)).2.1
  rw [tl_len] at l1
  clear hG
  go_enter Tryz.func69, Tryz.ntmps69
  go_wp2_with fail
  refine (rcut_32 s _ hs).mono ?_
  rintro e w' ⟨rfl, m1, rfl⟩
  go_wp2_with fail
  refine (rcut_32 (bs _) _ (by rw [size_bs]; omega)).mono ?_
  rintro e w' ⟨rfl, m2, rfl⟩
  rw [tl_bs]
  have b0 := blk_new w (.cells #[.string ⟨#[]⟩, .string ⟨#[]⟩, .slice none 0 0, .bool false, .slice none 0 0] 32)
  have f0 : Fr [] w (w.alloc (.cells #[.string ⟨#[]⟩, .string ⟨#[]⟩, .slice none 0 0, .bool false, .slice none 0 0] 32)) := (Fr.refl [] w).alloc _
  generalize (cutB 32 (cutB 32 (tl s)).2.1).1 = t at l2 HNO HYES ⊢
  generalize (cutB 32 (cutB 32 (tl s)).2.1).2.1 = v at l2 HNO HYES ⊢
  generalize (cutB 32 (cutB 32 (tl s)).2.1).2.2 = f2 at HNO HYES ⊢
  generalize (cutB 32 (tl s)).1 = m at l1 HNO HYES ⊢
  generalize (cutB 32 (tl s)).2.1 = r1 at l1 l2 HNO HYES ⊢
  generalize (cutB 32 (tl s)).2.2 = f1 at HNO HYES ⊢
  have bW : ((w.alloc (.cells #[.string ⟨#[]⟩, .string ⟨#[]⟩, .slice none 0 0, .bool false, .slice none 0 0] 32)).drewN (m1 + m2)).heap[w.heap.size]? = some (.cells #[.string ⟨#[]⟩, .string ⟨#[]⟩, .slice none 0 0, .bool false, .slice none 0 0] 32 (0, 0)) := b0
  have fW := f0.drewN (m1 + m2)
  have zW : w.heap.size < ((w.alloc (.cells #[.string ⟨#[]⟩, .string ⟨#[]⟩, .slice none 0 0, .bool false, .slice none 0 0] 32)).drewN (m1 + m2)).heap.size := blk_lt bW
  rw [World.drewN_drewN]
  generalize (w.alloc _).drewN (m1 + m2) = W at bW fW zW ⊢
  have GW := hid (GG.out.fr fW (by simp))
  have q0 := blk_cell bW 0
  have q1 := blk_cell bW 1
  have q2 := blk_cell bW 2
  have q3 := blk_cell bW 3
  have q4 := blk_cell bW 4
  simp at q0 q1 q2 q3 q4
  have z0 := blk_free bW 0
  have z1 := blk_free bW 1
  have z2 := blk_free bW 2
  have z3 := blk_free bW 3
  have z4 := blk_free bW 4
  have BW := hid bW
  have FW := hid fW
  have fin : ∀ b0 b1 b2 b3 b4, Fr [] w (set5 W w.heap.size b0 b1 b2 b3 b4) := fun _ _ _ _ _ => fr_set5 fW (.inr (Nat.le_refl _)) _ _ _ _ _
  have FIN := hid fin
  obtain ⟨mm, rfl⟩ : ∃ mm, m = tl mm := ⟨bs m, rfl⟩
  rw [tl_len] at l1 HNO HYES
  have hmz : mm.size ≤ maxLen := by unfold maxLen; omega
  simp only [bs_tl]
  clear b0 f0 bW fW fin
  cases f1 with
  | false =>
    have HN := hid (HNO.out (by simp))
    go_wp2_with fail
    refine fi_ret rfl rfl rfl (blk_set5 (w := W) BW.out _ _ _ _ _) ?_
    exact fi_no _ HN.out (FIN.out _ _ _ _ _)
  | true =>
  cases f2 with
  | false =>
    have HN := hid (HNO.out (by simp))
    go_wp2_with fail
    refine fi_ret rfl rfl rfl (blk_set5 (w := W) BW.out _ _ _ _ _) ?_
    exact fi_no _ HN.out (FIN.out _ _ _ _ _)
  | true =>
  by_cases h1 : 1 ≤ mm.size
  · by_cases h16 : mm.size ≤ 16
    · cases hv : decide (v = ver) with
      | false =>
        have hv1 : ((bs v).toList == [72, 84, 84, 80, 47, 49, 46, 49]) = false := by rw [ver_eq, hv]
        have HN := hid (HNO.out (by simp at hv; simp [hv]))
        clear hv
        go_wp2_with fail
        refine fi_ret rfl rfl rfl (blk_set5 (w := W) BW.out _ _ _ _ _) ?_
        exact fi_no _ HN.out (FIN.out _ _ _ _ _)
      | true =>
        have hv1 : ((bs v).toList == [72, 84, 84, 80, 47, 49, 46, 49]) = true := by rw [ver_eq, hv]
        have HV := hid (of_decide_eq_true hv)
        clear hv
        cases ha : (tl s).all isLin with
        | false =>
          have HN := hid (HNO.out (by rw [ha]; simp))
          go_wp2_with (go_at_call 96; refine (rallowed_ok s _ hmx).mono ?_; rintro e w' ⟨rfl, rfl⟩)
          refine fi_ret rfl rfl rfl (blk_set5 (w := W) BW.out _ _ _ _ _) ?_
          exact fi_no _ HN.out (FIN.out _ _ _ _ _)
        | true =>
          have HA := hid ha
          go_wp2_with (go_at_call 96; refine (rallowed_ok s _ hmx).mono ?_; rintro e w' ⟨rfl, rfl⟩)
          clear ha hv1
          go_loop [10] (fun i => ∃ k : Nat, k ≤ mm.size ∧ i = .int .i64 k ∧ ((tl mm).take k).all isUp = true) (fun i => mm.size - (intOf i).toNat)
          case atStart => exact ⟨0, Nat.zero_le _, rfl, rfl⟩
          case round =>
            obtain ⟨k, hk, rfl, hu⟩ := hrel
            have HU := hid hu
            clear hu
            by_cases hlt : k < mm.size
            · have H := hid (all_succ mm isUp k hlt)
              by_cases h65 : 65 ≤ mm[k].toNat
              · by_cases h90 : mm[k].toNat ≤ 90
                · go_wp2
                  go_round
                  case rel => exact ⟨k + 1, by omega, by go_num, by rw [H.out, HU.out]; simp [isUp]; omega⟩
                  case measure => simp [intOf]; omega
                · have HN := hid (HNO.out (by
                    intro hx
                    have := all_no mm isUp k hlt (by simp [isUp]; omega)
                    rw [hx.2.2.2.2.2.2] at this
                    cases this))
                  go_wp2
                  refine fi_ret rfl rfl rfl (blk_set5 (w := W) BW.out _ _ _ _ _) ?_
                  exact fi_no _ HN.out (FIN.out _ _ _ _ _)
              · have HN := hid (HNO.out (by
                  intro hx
                  have := all_no mm isUp k hlt (by simp [isUp]; omega)
                  rw [hx.2.2.2.2.2.2] at this
                  cases this))
                go_wp2
                refine fi_ret rfl rfl rfl (blk_set5 (w := W) BW.out _ _ _ _ _) ?_
                exact fi_no _ HN.out (FIN.out _ _ _ _ _)
            · have HY := hid (HYES.out ⟨trivial, trivial, HV.out, h1, h16, HA.out, (all_yes mm isUp k hlt HU.out).symm⟩)
              have hT : Calls Tryz.prog 22 #[.string (bs t)] W (TgtPost H W (tl (bs t))) := rtarget_ok H (bs t) W (by rw [size_bs]; omega) GW.out
              rw [tl_bs] at hT
              cases ht : tgt t with
              | none =>
                have HT := hid ht
                unfold TgtPost at hT
                rw [ht] at hT
                clear ht
                go_wp2_with (go_at_call 22; refine hT.mono ?_; rintro e w1 ⟨f1, rfl⟩; have B1 := hid (f1.blk BW.out (by simp)); have c0 := blk_cell B1.out 0; have c1 := blk_cell B1.out 1; have c2 := blk_cell B1.out 2; have c3 := blk_cell B1.out 3; have c4 := blk_cell B1.out 4; simp at c0 c1 c2 c3 c4; have y0 := blk_free B1.out 0; have y1 := blk_free B1.out 1; have y2 := blk_free B1.out 2; have y3 := blk_free B1.out 3; have y4 := blk_free B1.out 4; have F1 := hid f1; clear f1)
                refine fi_ret rfl rfl rfl (blk_set5 (w := w1) B1.out _ _ _ _ _) ?_
                exact fi_no _ (by rw [HY.out, HT.out]; rfl) (fr_set5 (FW.out.trans F1.out) (.inr (Nat.le_refl _)) _ _ _ _ _)
              | some x =>
                obtain ⟨p, ps⟩ := x
                have HT := hid ht
                unfold TgtPost at hT
                rw [ht] at hT
                clear ht
                go_wp2_with (go_at_call 22; refine hT.mono ?_; rintro e w1 ⟨f1, v', H', rfl, x1, g1, r1⟩; obtain ⟨A', c', rfl⟩ := row_slice r1; have B1 := hid (f1.blk BW.out (by simp)); have c0 := blk_cell B1.out 0; have c1 := blk_cell B1.out 1; have c2 := blk_cell B1.out 2; have c3 := blk_cell B1.out 3; have c4 := blk_cell B1.out 4; simp at c0 c1 c2 c3 c4; have y0 := blk_free B1.out 0; have y1 := blk_free B1.out 1; have y2 := blk_free B1.out 2; have y3 := blk_free B1.out 3; have y4 := blk_free B1.out 4; have F1 := hid f1; have X1 := hid x1; have G1 := hid g1; have R1 := hid r1; clear f1 x1 g1 r1)
                refine fi_ret rfl rfl rfl (blk_set5 (w := w1) B1.out _ _ _ _ _) ?_
                refine ⟨fr_set5 (FW.out.trans F1.out) (.inr (Nat.le_refl _)) _ _ _ _ _, ?_⟩
                rw [HY.out, HT.out]
                have hno : H' w.heap.size = none := (X1.out.old _ zW).trans (GG.out.none_ge (Nat.le_refl _))
                refine ⟨_, H', rfl, ⟨X1.out.mono, fun k hk => X1.out.old k (by omega)⟩, G1.out.fr (fr_set5 (Fr.refl [w.heap.size] w1) (.inl (by simp)) _ _ _ _ _) (fun x hx => ?_), R1.out, rfl, rfl⟩
                simp at hx
                subst hx
                exact hno
    · have HN := hid (HNO.out (by omega))
      go_wp2_with fail
      refine fi_ret rfl rfl rfl (blk_set5 (w := W) BW.out _ _ _ _ _) ?_
      exact fi_no _ HN.out (FIN.out _ _ _ _ _)
  · have HN := hid (HNO.out (by omega))
    go_wp2_with fail
    refine fi_ret rfl rfl rfl (blk_set5 (w := W) BW.out _ _ _ _ _) ?_
    exact fi_no _ HN.out (FIN.out _ _ _ _ _)
end Go.Proofs.YtpofpgejhnlfjaaGreatDoor
