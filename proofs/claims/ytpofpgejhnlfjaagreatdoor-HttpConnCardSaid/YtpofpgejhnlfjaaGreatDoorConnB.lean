/- The law 'HttpConn': its walk. -/
import Derived.Test.YtpofpgejhnlfjaaGreatDoorConnA
import Derived.Test.YtpofpgejhnlfjaaGreatDoorHttpN
import Derived.Deep.RegionHeld3
set_option linter.unusedVariables false
set_option linter.unusedSimpArgs false
set_option maxRecDepth 100000
namespace Go.Proofs.YtpofpgejhnlfjaaGreatDoor
open Go Go.RowKit Bpm Bph

/-- Rows of bytes that are read. -/
def RowsR (H : RO) (v : Value) (ls : List (List UInt8)) : Prop := ∃ cs, RowR H v ls.length cs ∧ cs.length = ls.length ∧ ∀ i (h : i < ls.length), ∃ x, cs[i]? = some x ∧ BytR H x ls[i]
theorem RowsR.ext {H H' : RO} {w : World} {v : Value} {ls : List (List UInt8)} (h : RowsR H v ls) (x : Ext H H' w) : RowsR H' v ls := by
  obtain ⟨cs, h1, h2, h3⟩ := h
  exact ⟨cs, RowR.ext h1 x, h2, fun i hi => by obtain ⟨y, a, b⟩ := h3 i hi; exact ⟨y, a, RowR.ext b x⟩⟩
theorem RowsR.get {H : RO} {A : Option Addr} {n c : Nat} {ls : List (List UInt8)} (h : RowsR H (.slice A n c) ls) (i : Nat) (hi : i < ls.length) :
    ∃ b o Ai ci, A = some ⟨b, o, none⟩ ∧ (∀ W, GoodH H W → W.cell? ⟨b, o + i, none⟩ = some (.slice Ai ls[i].length ci)) ∧ BytR H (.slice Ai ls[i].length ci) ls[i] := by
  obtain ⟨cs, ⟨A', c', e, _, _, h1⟩, h2, h3⟩ := h
  cases e
  obtain ⟨b, o, cur, e, fr, rfl, hb, hj⟩ := h1 (by rintro rfl; simp at h2; omega)
  obtain ⟨x, hx, hr⟩ := h3 i hi
  obtain ⟨Ai, ci, rfl⟩ := row_slice hr
  exact ⟨b, o, Ai, ci, rfl, fun W hG => by rw [blk_cell (hG _ _ hb), hj i (by omega), hx], hr⟩
def sumL (ls : List (List UInt8)) (k : Nat) : Nat := ((ls.take k).map List.length).sum
theorem sumL_succ (ls : List (List UInt8)) (k : Nat) (h : k < ls.length) : sumL ls (k + 1) = sumL ls k + ls[k].length := by
  unfold sumL
  rw [List.take_succ_eq_append_getElem h, List.map_append, List.sum_append]
  rfl
theorem sumL_all (ls : List (List UInt8)) (k : Nat) (h : ls.length ≤ k) : sumL ls k = sumL ls ls.length := by
  unfold sumL
  rw [List.take_of_length_le h, List.take_of_length_le (Nat.le_refl _)]
theorem sumL_le (ls : List (List UInt8)) (M : Nat) (hM : ∀ l ∈ ls, l.length ≤ M) (k : Nat) : sumL ls k ≤ k * M := by
  induction k with
  | zero => simp [sumL]
  | succ k ih =>
    by_cases h : k < ls.length
    · rw [sumL_succ ls k h, Nat.add_mul]
      have := hM ls[k] (List.getElem_mem h)
      omega
    · rw [sumL_all ls (k + 1) (by omega), ← sumL_all ls k (by omega), Nat.add_mul]
      omega
theorem sumL_mono (ls : List (List UInt8)) (k : Nat) (h : k ≤ ls.length) : sumL ls k ≤ sumL ls ls.length := by
  induction hd : ls.length - k generalizing k with
  | zero => have : k = ls.length := by omega
            rw [this]; exact Nat.le_refl _
  | succ d ih =>
    have := ih (k + 1) (by omega) (by omega)
    rw [sumL_succ ls k (by omega)] at this
    omega
/-- What the outer loop holds. -/
def CoL (H0 : RO) (w0 : World) (g1 g2 : Nat) (ls : List (List UInt8)) (s7 : Value) (wr : World) : Prop :=
  ∃ (i : Nat) (H : RO) (b : List UInt8) (o : Bool), s7 = .int .i64 i ∧ i ≤ ls.length ∧ Ext H0 H w0 ∧ CnS H w0 g1 g2 b o b o wr ∧ b.length ≤ sumL ls i
def CiL (H0 : RO) (w0 : World) (g1 g2 : Nat) (m : Nat) (k : Nat) (wr : World) : Prop :=
  ∃ (H : RO) (b : List UInt8) (o : Bool), k = mzr b o ∧ Ext H0 H w0 ∧ CnS H w0 g1 g2 b o b o wr ∧ b.length ≤ m
set_option maxHeartbeats 2000000 in
theorem conn_ok (H : RO) (w : World) (hE : Env H) (hG : GoodH H w) (v : Value) (ls : List (List UInt8)) (hl : RowsR H v ls) (hM : ∀ l ∈ ls, l.length ≤ 140737488355328) :
    Calls Tryz.prog 4 #[v] w fun e w' => e = .returned (.bool true) ∧ Fr [] w w' := by
  have EE := hid hE
  have GG := hid hG
  have HL := hid hl
  have HM := hid hM
  obtain ⟨A, c, rfl⟩ : ∃ A c, v = .slice A ls.length c := by obtain ⟨cs, ⟨A, c, e, _⟩, _⟩ := hl; exact ⟨A, c, e⟩
  have hll : ls.length ≤ 9223372036854775807 ∧ ls.length ≤ c := by obtain ⟨cs, ⟨A, c, e, h1, h2, _⟩, _⟩ := hl; cases e; exact ⟨h2, h1⟩
  obtain ⟨hl1, hl2⟩ := hll
  clear hE hG hl hM
  go_enter Tryz.func4, Tryz.ntmps4
  go_wp2_with (go_at_call 7; refine (lives_ok H _ EE.out GG.out).mono ?_; rintro e w1 ⟨rfl, f1⟩; have F1 := hid f1; clear f1)
  go_loop [3, 4] (fun s3 s4 => ∃ k : Nat, k ≤ ls.length ∧ k ≤ 61 ∧ s4 = .int .i64 k ∧ s3 = .int .i64 (sumL ls k : Int)) (fun _ s4 => 61 - (intOf s4).toNat)
  case atStart => exact ⟨0, by omega, by omega, rfl, rfl⟩
  case round =>
    obtain ⟨k, hk, hk61, rfl, rfl⟩ := hrel
    have hsb := sumL_le ls _ HM.out k
    have hsb2 : (sumL ls k : Int) ≤ 8725724278030336 := by omega
    clear hsb
    by_cases hlt : k < ls.length
    · by_cases h60 : k ≤ 60
      · obtain ⟨b, o, Ai, ci, rfl, hc, hr⟩ := HL.out.get k hlt
        have hc := hc w1 (GG.out.fr F1.out (by simp))
        have hm := HM.out ls[k] (List.getElem_mem hlt)
        have HS := hid (sumL_succ ls k hlt)
        clear hr
        generalize hN : ls[k].length = N at hc hm HS
        clear hN
        go_wp2
        go_round
        case rel => exact ⟨k + 1, by omega, by omega, by go_num, by rw [HS.out]; go_num⟩
        case measure => simp [intOf]; omega
      · have h60' : 60 < ls.length := by omega
        go_wp2
        all_goals (go_ret; exact ⟨rfl, F1.out⟩)
    · obtain rfl : k = ls.length := by omega
      by_cases hbig : 20000 < sumL ls ls.length
      · go_wp2
        go_ret
        exact ⟨rfl, F1.out⟩
      · by_cases h61 : 60 < ls.length
        · go_wp2
          go_ret
          exact ⟨rfl, F1.out⟩
        have HBIG := hid hbig
        have GG1 := hid (GG.out.fr F1.out (by simp))
        have TC := hid (two_conns H w1 GG1.out)
        go_wp2_with (first | (go_at_call 8; refine (new_ok _).mono ?_; rintro e w' ⟨rfl, rfl⟩) | (go_at_call 14; refine (rnew_ok _).mono ?_; rintro e w' ⟨rfl, rfl⟩))
        generalize (w1.alloc _).alloc _ = W0 at TC ⊢
        generalize hg1 : w1.heap.size = g1 at TC ⊢
        generalize g1 + 1 = g2 at TC ⊢
        clear hg1 hbig hsb2
        go_loopw [7] (fun s7 wr => CoL H w1 g1 g2 ls s7 wr) (fun s7 _ => ls.length - (intOf s7).toNat)
        case atStart => exact ⟨0, H, [], false, rfl, by omega, Ext.refl _ _, TC.out, by simp⟩
        case round =>
          obtain ⟨i, H1, b, o, rfl, hi, hx, hS, hbl⟩ := hrel
          have SS := hid hS
          have X1 := hid hx
          have E1 : Env H1 := EE.out.ext hx
          have EE1 := hid E1
          have hbs := Nat.le_trans hbl (sumL_mono ls i hi)
          clear hS hx E1
          by_cases hlt : i < ls.length
          · have hbl2 : b.length + ls[i].length ≤ sumL ls (i + 1) := by rw [sumL_succ ls i hlt]; omega
            have hsm := sumL_mono ls (i + 1) (by omega)
            obtain ⟨bb, oo, Ai, ci, rfl, hc, hr⟩ := (HL.out.ext X1.out).get i hlt
            have HCW := hid hc
            have hc := HCW.out wr SS.out.good
            have HRw := hid hr
            have h20 : b.length + ls[i].length ≤ 20000 := by have := HBIG.out; omega
            have HB2 := hid hbl2
            clear hr hbl2 hsm
            generalize ls[i] = l at hc HCW HRw h20 HB2 ⊢
            have b0 : (0 : Int) ≤ (i : Int) := by omega
            have b1 : (i : Int) < (ls.length : Int) := by omega
            cases o
            case' true =>
              have hS := SS.out.go ((Fr.refl [] wr).drew)
              have hbq : b.length ≤ sumL ls (i + 1) := by have := HB2.out; omega
              go_wp2_with fail
              go_region_held3 (fun w' => w'.cell? ⟨bb, oo + i, none⟩ = some (.slice Ai l.length ci)) (go_keep) (first | (go_at_call 9; refine (feed1o hS).mono ?_; rintro e w' ⟨rfl, rfl⟩) | (go_at_call 15; refine (feed2o hS).mono ?_; rintro e w' ⟨rfl, rfl⟩))
              obtain ⟨bq, oq, hbq, hSq⟩ : ∃ bq oq, bq.length ≤ sumL ls (i + 1) ∧ CnS H1 w1 g1 g2 bq oq bq oq wr.drew := ⟨b, true, hbq, hS⟩
              clear hS
            case' false =>
              have hS := SS.out.go ((Fr.refl [] wr).drew)
              have hl1 : b.length + l.length ≤ 1048576 := by omega
              go_wp2_with fail
              go_region_held3 (fun w' => w'.cell? ⟨bb, oo + i, none⟩ = some (.slice Ai l.length ci)) (go_keep) (first | (go_at_call 9; refine (feed1 (by assumption) HRw.out hl1).mono ?_; rintro e w' ⟨rfl, hS'⟩; have hc' := HCW.out _ hS'.good) | (go_at_call 15; refine (feed2 (by assumption) HRw.out hl1).mono ?_; rintro e w' ⟨rfl, hS'⟩; have hc' := HCW.out _ hS'.good))
              obtain ⟨bq, oq, hbq, hSq⟩ : ∃ bq oq, bq.length ≤ sumL ls (i + 1) ∧ CnS H1 w1 g1 g2 bq oq bq oq w' := ⟨b ++ l, false, by simp; exact HB2.out, hS'⟩
            all_goals
              have SQ := hid hSq
              clear hSq hc hbl hbs
              go_wp2_with fail
              go_loopg [8] (mzr bq oq) (fun k s8 wr => CiL H w1 g1 g2 (sumL ls (i + 1)) k wr)
              case atStart => exact ⟨H1, bq, oq, rfl, X1.out, SQ.out, hbq⟩
              case round =>
                obtain ⟨H2, b2, o2, rfl, hx2, hS2, hb2⟩ := hrel
                have hl20 : b2.length ≤ 2000000 := by have := sumL_mono ls (i + 1) (by omega); have := HBIG.out; omega
                have X2 := hid hx2
                have S2 := hid hS2
                have N1 := next1 (EE.out.ext hx2) hS2 hl20
                have hle := nxO_le b2 o2
                have HLT := hid (fun h => @nxO_lt b2 o2 h)
                unfold Nx1 at N1
                have N2 := fun (H' : RO) (b1 : List UInt8) (o1 : Bool) (W : World) (h : CnS H' w1 g1 g2 b1 o1 b2 o2 W) => next2 h hl20
                unfold Nx2 at N2
                have HN2 := hid N2
                clear hx2 hS2 N2
                generalize nxO b2 o2 = nx at N1 HN2 hle HLT
                go_wp2_with fail
                refine N1.mono ?_
                rintro e wa ⟨va, Ha, rfl, ⟨qa, bda, rfl, hqa, hba⟩, hxa, hfa, hSa⟩
                obtain ⟨Aqa, cqa, rfl⟩ := row_slice hqa
                obtain ⟨Aba, cba, rfl⟩ := row_slice hba
                have fa : Fr [] wa (wa.alloc (.cells #[.string (bs nx.r.m), .string (bs nx.r.p), .slice Aqa nx.r.q.length cqa, .bool nx.r.close, .slice Aba nx.r.body.length cba] 32)) := (Fr.refl [] wa).alloc _
                have M2 := HN2.out Ha nx.buf nx.over _ (hSa.go fa)
                have XA := hid hxa
                have SA := hid hSa
                have QA := hid hqa
                have BA := hid hba
                have BXA := hid (blk_new wa (.cells #[.string (bs nx.r.m), .string (bs nx.r.p), .slice Aqa nx.r.q.length cqa, .bool nx.r.close, .slice Aba nx.r.body.length cba] 32))
                clear N1 hxa hSa hqa hba
                go_wp2_with fail
                refine M2.mono ?_
                rintro e wb ⟨vb, Hb, rfl, ⟨qb, bdb, rfl, hqb, hbb⟩, hxb, hfb, hSb⟩
                obtain ⟨Aqb, cqb, rfl⟩ := row_slice hqb
                obtain ⟨Abb, cbb, rfl⟩ := row_slice hbb
                have hza : wa.heap.size < wb.heap.size := by have := hfb.size; simp at this; omega
                have BXB := hid (hfb.blk BXA.out (by
                  have : g2 < wa.heap.size := by obtain ⟨_, _, h⟩ := SA.out; exact h.c2.lt
                  simp; omega))
                have e0 := blk_cell BXB.out 0
                have e1 := blk_cell BXB.out 1
                have e2 := blk_cell BXB.out 2
                have e3 := blk_cell BXB.out 3
                have e4 := blk_cell BXB.out 4
                simp at e0 e1 e2 e3 e4
                have fb : Fr [] wb (wb.alloc (.cells #[.string (bs nx.r.m), .string (bs nx.r.p), .slice Aqb nx.r.q.length cqb, .bool nx.r.close, .slice Abb nx.r.body.length cbb] 32)) := (Fr.refl [] wb).alloc _
                have hSc := hSb.go fb
                have MS := sameRequest_ok Hb _ hSc.good (.agg #[.string (bs nx.r.m), .string (bs nx.r.p), .slice Aqa nx.r.q.length cqa, .bool nx.r.close, .slice Aba nx.r.body.length cba]) (.agg #[.string (bs nx.r.m), .string (bs nx.r.p), .slice Aqb nx.r.q.length cqb, .bool nx.r.close, .slice Abb nx.r.body.length cbb]) nx.r
                  ⟨_, _, rfl, QA.out.ext hxb, BA.out.ext hxb⟩ ⟨_, _, rfl, hqb, hbb⟩
                have XB := hid ((X2.out.trans XA.out (by have := S2.out.fr0.size; omega)).trans hxb (by have := SA.out.fr0.size; simp; omega))
                have SC := hid hSc
                clear M2 hqb hbb hxb hSb hSc hfb
                go_wp2_with fail
                refine MS.mono ?_
                rintro e wc ⟨rfl, fc⟩
                have SD := hid (SC.out.go fc)
                clear MS fc fb fa hfa e0 e1 e2 e3 e4
                cases his : nx.is with
                | false =>
                  clear HLT his
                  have hSd := SD.out
                  go_wp2_with (first | (go_at_call 11; refine (over1 hSd).mono ?_; rintro e w' ⟨rfl, rfl⟩) | (go_at_call 17; refine (over2 hSd).mono ?_; rintro e w' ⟨rfl, rfl⟩) | (go_at_call 18; refine (left1 hSd).mono ?_; rintro e w' ⟨rfl, rfl⟩) | (go_at_call 19; refine (left2 hSd).mono ?_; rintro e w' ⟨rfl, rfl⟩))
                  exact ⟨⟨i + 1, Hb, nx.buf, nx.over, by go_num, by omega, XB.out, SD.out, Nat.le_trans hle hb2⟩, by simp [intOf]; omega⟩
                | true =>
                  have hlt2 := hid (HLT.out his)
                  clear HLT his
                  go_wp2_with fail
                  go_roundg (mzr nx.buf nx.over)
                  case measure => exact hlt2.out
                  case rel => exact ⟨Hb, nx.buf, nx.over, rfl, XB.out, SD.out, Nat.le_trans hle hb2⟩
          · go_wp2
            go_ret
            exact ⟨rfl, F1.out.trans SS.out.fr0⟩
end Go.Proofs.YtpofpgejhnlfjaaGreatDoor
