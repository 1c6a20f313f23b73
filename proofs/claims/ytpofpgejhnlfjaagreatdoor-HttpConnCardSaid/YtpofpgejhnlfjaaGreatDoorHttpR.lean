/- The law 'HttpPieces': its walk. -/
import Derived.Test.YtpofpgejhnlfjaaGreatDoorHttpQ
set_option linter.unusedVariables false
set_option linter.unusedSimpArgs false
set_option maxRecDepth 100000
namespace Go.Proofs.YtpofpgejhnlfjaaGreatDoor
open Go Go.RowKit Bpm Bph

def L2 (H0 : RO) (w0 : World) (g1 g2 : Nat) (b : List UInt8) (bv1 : Value) (buf1 : List UInt8) (over1 : Bool) (vx : Value) (xs : List (Req × Int)) (k : Nat) (s0 s8 s10 s15 : Value) (W : World) : Prop :=
  ∃ H bv buf over ys pre rest, ∃ z : Nat, s10 = .int .i64 (lastSt ys) ∧ s15 = .int .i64 z ∧ BytR H0 s0 rest ∧ Stop buf over ∧ z + rest.length ≤ b.length ∧ rest.length ≤ k ∧ L2c H0 w0 g1 g2 b bv1 buf1 over1 vx xs H bv buf over s8 ys pre rest W
def L3 (H0 : RO) (w0 : World) (g1 g2 : Nat) (b : List UInt8) (bv1 : Value) (buf1 : List UInt8) (over1 : Bool) (vx : Value) (xs : List (Req × Int)) (pre rest : List UInt8) (k : Nat) (s8 s10 : Value) (W : World) : Prop :=
  ∃ H bv buf over ys, s10 = .int .i64 (lastSt ys) ∧ L2c H0 w0 g1 g2 b bv1 buf1 over1 vx xs H bv buf over s8 ys pre rest W ∧ (over = false → buf.length + 1 ≤ k)
def L4 (W0 : World) (n : Nat) (k : Nat) (s20 : Value) (W : World) : Prop := ∃ i : Nat, s20 = .int .i64 i ∧ i + k = n ∧ Fr [] W0 W
theorem own_req {H : RO} {W : World} {A : Option Addr} {n c : Nat} {xs : List (Req × Int)} {cs : List Value} (ho : OwnR W (.slice A n c) 32 5 xs.length cs) (he : EvR H xs cs) (i : Nat) (hi : i < xs.length) :
    ∃ b o Aq cq Ab cb, A = some ⟨b, o, none⟩ ∧ ParR H (.slice Aq xs[i].1.q.length cq) xs[i].1.q ∧ BytR H (.slice Ab xs[i].1.body.length cb) xs[i].1.body ∧ W.cell? ⟨b, o + i * 5, none⟩ = some (.string (bs xs[i].1.m)) ∧ W.cell? ⟨b, o + i * 5 + 1, none⟩ = some (.string (bs xs[i].1.p)) ∧ W.cell? ⟨b, o + i * 5 + 2, none⟩ = some (.slice Aq xs[i].1.q.length cq) ∧ W.cell? ⟨b, o + i * 5 + 3, none⟩ = some (.bool xs[i].1.close) ∧ W.cell? ⟨b, o + i * 5 + 4, none⟩ = some (.slice Ab xs[i].1.body.length cb) := by
  obtain ⟨q, bd, h1, h2, e0, e1, e2, e3, e4⟩ := he.get i hi
  obtain ⟨Aq, cq, rfl⟩ := row_slice h1
  obtain ⟨Ab, cb, rfl⟩ := row_slice h2
  obtain ⟨_, _, h3⟩ := ho
  rcases h3 with ⟨e, h0⟩ | ⟨g, o, c', cur, e, hg, _, _, hj⟩
  · omega
  · cases e
    refine ⟨g, o, Aq, cq, Ab, cb, rfl, h1, h2, ?_, ?_, ?_, ?_, ?_⟩
    · rw [blk_cell hg, hj _ (by omega), e0]
    · rw [blk_cell hg, Nat.add_assoc, hj _ (by omega), e1]
    · rw [blk_cell hg, Nat.add_assoc, hj _ (by omega), e2]
    · rw [blk_cell hg, Nat.add_assoc, hj _ (by omega), e3]
    · rw [blk_cell hg, Nat.add_assoc, hj _ (by omega), e4]
theorem own_room {W : World} {A : Option Addr} {e sz n c : Nat} {cs : List Value} (ho : OwnR W (.slice A n c) e sz n cs) : n ≤ c ∧ n ≤ 9223372036854775807 := by
  obtain ⟨_, h1, h⟩ := ho
  rcases h with ⟨e, rfl⟩ | ⟨g, o, c', cur, e, _, hc, _⟩
  · exact ⟨by omega, h1⟩
  · cases e; exact ⟨hc, h1⟩
theorem byt_to {H : RO} {A : Option Addr} {c : Nat} {l : List UInt8} (h : BytR H (.slice A l.length c) l) (k : Nat) (hk : k ≤ l.length) :
    (∀ W : World, (Instr.slice 22 (.slice A l.length c) none (some (.int .i64 k)) none).run Tryz.prog W = .ok (.slice A k c) W) ∧ BytR H (.slice A k c) (l.take k) := by
  have hc := (row_room h).1
  refine ⟨fun W => to_run elB A l.length c k (by omega) W, ?_⟩
  have := RowR.to (sz := 1) h (by simp [u8s]) k hk
  unfold BytR
  rw [show (l.take k).length = k by simp; omega, show u8s (l.take k) = (u8s l).take (k * 1) by simp [u8s, List.map_take]]
  exact this
theorem byt_from {H : RO} {A : Option Addr} {c : Nat} {l : List UInt8} (h : BytR H (.slice A l.length c) l) (k : Nat) (hk : k ≤ l.length) :
    ∃ A' c', (∀ W : World, (Instr.slice 22 (.slice A l.length c) (some (.int .i64 k)) none none).run Tryz.prog W = .ok (.slice A' (l.length - k) c') W) ∧ BytR H (.slice A' (l.length - k) c') (l.drop k) := by
  refine ⟨_, _, fun W => from_run elB A l.length c k hk W, ?_⟩
  have := RowR.from (sz := 1) h (by simp [u8s]) k hk
  unfold BytR
  rw [List.length_drop, u8s_drop]
  exact this
theorem cut_cell {H : RO} {W : World} (hG : GoodH H W) {A : Option Addr} {n c : Nat} {cuts : List Int} (h : RowR H (.slice A n c) n (cuts.map fun z => .int .i64 z)) (i : Nat) (hi : i < cuts.length) :
    ∃ b o, A = some ⟨b, o, none⟩ ∧ W.cell? ⟨b, o + i, none⟩ = some (.int .i64 cuts[i]) := by
  obtain ⟨A', c', e, _, _, h⟩ := h
  cases e
  obtain ⟨b, o, cur, e, fr, rfl, hb, hj⟩ := h (by intro e; simp at e; subst e; simp at hi)
  refine ⟨b, o, rfl, ?_⟩
  rw [blk_cell (hG _ _ hb), hj i (by simpa using hi)]
  simp [hi]

set_option maxHeartbeats 2000000 in
theorem pieces_ok (H : RO) (w : World) (hE : Env H) (hG : GoodH H w) (vb vc : Value) (b : List UInt8) (cuts : List Int) (hb : BytR H vb b) (hc : RowR H vc cuts.length (cuts.map fun z => .int .i64 z)) (hcr : ∀ z, z ∈ cuts → -9223372036854775808 ≤ z ∧ z ≤ 9223372036854775807) :
    Calls Tryz.prog 3 #[vb, vc] w fun e w' => e = .returned (.bool true) ∧ Fr [] w w' := by
  obtain ⟨A0, c0, rfl⟩ := row_slice hb
  obtain ⟨A1, c1, rfl⟩ := row_slice hc
  have hb0 := row_room hb
  by_cases hbig : 20000 < b.length
  · have hL := lives_ok H w hE hG
    go_enter Tryz.func3, Tryz.ntmps3
    go_wp2_with (go_at_call 7; refine hL.mono ?_; rintro e w1 ⟨rfl, f1⟩; have F1 := hid f1; clear f1)
    go_ret
    exact ⟨rfl, F1.out⟩
  · have hL := lives_ok H w hE hG
    have HB := hid hb
    have HC := hid hc
    have EE := hid hE
    have GG := hid hG
    clear hb hc hE hG
    go_enter Tryz.func3, Tryz.ntmps3
    go_wp2_with (go_at_call 7; refine hL.mono ?_; rintro e w1 ⟨rfl, f1⟩; have F1 := hid f1; have TT := hid (two_new H w1 (GG.out.fr f1 (by simp))); clear f1)
    have hw1 := TT.out.ge1
    go_wp2_with (first | (go_at_call 8; refine (new_ok _).mono ?_; rintro e w' ⟨rfl, rfl⟩))
    generalize (w1.alloc _).alloc _ = W2 at TT ⊢
    obtain ⟨g1, hg1⟩ : ∃ g1, g1 = w1.heap.size := ⟨_, rfl⟩
    rw [← hg1] at TT ⊢
    obtain ⟨g2, hg2⟩ : ∃ g2, g2 = g1 + 1 := ⟨_, rfl⟩
    rw [← hg2] at TT ⊢
    clear hg1 hg2 hw1
    refine (feed_cn H W2 TT.out.good g1 _ _ [] b TT.out.c1 HB.out (by simp; omega)).mono ?_
    intro e W3 hfd
    obtain rfl := hfd.1
    obtain ⟨bv0, hst⟩ := L1_start TT.out hfd
    have HS := hid hst
    clear hst hfd
    go_wp2_with fail
    go_loopg [7, 9, 11] (b.length + 1) (fun k s7 s9 s11 wr => L1 H w1 g1 g2 b k s7 s9 s11 wr)
    case atStart => exact ⟨H, bv0, b, false, [], 0, rfl, rfl, HS.out, fun _ => Nat.le_refl _⟩
    case round =>
      obtain ⟨H1, bv, buf, over, xs, z, rfl, rfl, hL1, hk⟩ := hrel
      have E1 : Env H1 := EE.out.ext hL1.ext
      have hbl : buf.length ≤ 2000000 := by have := hL1.blen; omega
      by_cases hst : Stop buf over
      · have hN := next_stop H1 wr E1 hL1.good hL1.d1 hbl hst
        have HT := hid (hL1.told hst)
        have hxl := hL1.len
        have HL1 := hid hL1
        obtain ⟨_, ho7, _⟩ := hL1.d1.own
        obtain ⟨A7, c7, rfl⟩ := OwnR.slice ho7
        clear hL1 hst hk ho7 hbl
        go_wp2_with (first | (go_at_call 10; refine hN.mono ?_; rintro e wr1 ⟨rfl, f1, y1, d1⟩; simp only [zeroV, reqZ]; have M2 := hid (L2_start HL1.out f1 y1 d1); clear f1 y1 d1 hN))
        have M3 := hid (L2_over M2.out ((Fr.refl [] wr1).alloc (.cells #[.string ⟨#[]⟩, .string ⟨#[]⟩, .slice none 0 0, .bool false, .slice none 0 0] 32)))
        generalize wr1.alloc _ = W5 at M3 ⊢
        clear M2 HL1
        go_loopg [0, 8, 10, 15] b.length (fun k s0 s8 s10 s15 wr => L2 H w1 g1 g2 b bv buf over (.slice A7 xs.length c7) xs k s0 s8 s10 s15 wr)
        case atStart => exact ⟨H1, .slice none 0 0, [], false, [], [], b, 0, rfl, rfl, HB.out, .inr rfl, by omega, Nat.le_refl _, M3.out⟩
        case round =>
          obtain ⟨H2, bv2, buf2, over2, ys, pr, rest, z2, rfl, rfl, hb2, hst2, hz2, hk2, h2⟩ := hrel
          obtain ⟨A2, c2, rfl⟩ := row_slice hb2
          obtain ⟨_, ho8, _⟩ := h2.d2.own
          obtain ⟨A8, c8, rfl⟩ := OwnR.slice ho8
          clear ho8
          by_cases hr : rest = []
          · obtain ⟨rfl, rfl⟩ := h2.same hst2 (.inl hr) HT.out
            subst hr
            have ov1 := h2.d1.cn.at_
            have ov2 := h2.d2.cn.at_
            have OV1 := hid ov1
            have OV2 := hid ov2
            have N2 := hid h2
            clear ov1 ov2 h2 hst2
            go_wp2_with (first | (go_at_call 11; first | (with_reducible refine (over_ok _ g1 bv _ OV1.out).mono ?_; rintro e w' ⟨rfl, rfl⟩) | (with_reducible refine (over_ok _ g2 bv2 _ OV2.out).mono ?_; rintro e w' ⟨rfl, rfl⟩)))
            obtain ⟨cs1, o1, e1⟩ := N2.out.d1.own
            obtain ⟨cs2, o2, e2⟩ := N2.out.d2.own
            have r1 := own_room o1
            have r2 := own_room o2
            have O1 := hid o1
            have O2 := hid o2
            have V1 := hid e1
            have V2 := hid e2
            clear o1 o2 e1 e2
            go_loopg [20] ys.length (fun k s20 W => L4 wr ys.length k s20 W)
            case atStart => exact ⟨0, rfl, by omega, Fr.refl _ _⟩
            case round =>
              rename_i gk4 wr4
              obtain ⟨i, rfl, hik, f4⟩ := hrel
              have F4 := hid f4
              by_cases hi : i < ys.length
              · obtain ⟨k1, p1, Aq, cq, Ab, cb, rfl, hq1, hbd1, a0, a1, a2, a3, a4⟩ := own_req (O1.out.fr f4 (by simp)) V1.out i hi
                obtain ⟨k2, p2, Aq', cq', Ab', cb', rfl, hq2, hbd2, b0, b1, b2, b3, b4⟩ := own_req (O2.out.fr f4 (by simp)) V2.out i hi
                have R1 := hid (show ReqR H2 (.agg #[.string (bs ys[i].1.m), .string (bs ys[i].1.p), .slice Aq ys[i].1.q.length cq, .bool ys[i].1.close, .slice Ab ys[i].1.body.length cb]) ys[i].1 from ⟨_, _, rfl, hq1, hbd1⟩)
                have R2 := hid (show ReqR H2 (.agg #[.string (bs ys[i].1.m), .string (bs ys[i].1.p), .slice Aq' ys[i].1.q.length cq', .bool ys[i].1.close, .slice Ab' ys[i].1.body.length cb']) ys[i].1 from ⟨_, _, rfl, hq2, hbd2⟩)
                have G4 := hid (N2.out.good.fr f4 (by simp))
                clear hq1 hbd1 hq2 hbd2 f4
                go_wp2
                go_region_with (go_at_call 13; refine (sameRequest_ok H2 _ (G4.out.fr ((Fr.refl [] wr).drew) (by simp)) _ _ _ R1.out R2.out).mono ?_; rintro e w7 ⟨rfl, f7⟩; have F7 := hid f7; clear f7)
                all_goals go_wp2
                all_goals
                  go_roundg (gk - 1)
                  case measure => omega
                  case rel => exact ⟨i + 1, by simp, by omega, (F4.out.trans ((Fr.refl [] wr).drew)).trans F7.out⟩
              · clear f4
                go_wp2
                go_ret
                exact ⟨rfl, F1.out.trans (N2.out.fr.trans F4.out)⟩
          · have hr0 : 0 < rest.length := by
              cases rest with
              | nil => exact absurd rfl hr
              | cons c r => simp
            by_cases hov : over2 = true
            · subst hov
              obtain ⟨rfl, rfl⟩ := h2.same hst2 (.inr rfl) HT.out
              have ov1 := h2.d1.cn.at_
              have ov2 := h2.d2.cn.at_
              have OV1 := hid ov1
              have OV2 := hid ov2
              have N2 := hid h2
              clear ov1 ov2 h2 hst2
              go_wp2_with (first | (go_at_call 11; first | (with_reducible refine (over_ok _ g1 bv _ OV1.out).mono ?_; rintro e w' ⟨rfl, rfl⟩) | (with_reducible refine (over_ok _ g2 bv2 _ OV2.out).mono ?_; rintro e w' ⟨rfl, rfl⟩)))
              obtain ⟨cs1, o1, e1⟩ := N2.out.d1.own
              obtain ⟨cs2, o2, e2⟩ := N2.out.d2.own
              have r1 := own_room o1
              have r2 := own_room o2
              have O1 := hid o1
              have O2 := hid o2
              have V1 := hid e1
              have V2 := hid e2
              clear o1 o2 e1 e2
              go_loopg [20] ys.length (fun k s20 W => L4 wr ys.length k s20 W)
              case atStart => exact ⟨0, rfl, by omega, Fr.refl _ _⟩
              case round =>
                rename_i gk4 wr4
                obtain ⟨i, rfl, hik, f4⟩ := hrel
                have F4 := hid f4
                by_cases hi : i < ys.length
                · obtain ⟨k1, p1, Aq, cq, Ab, cb, rfl, hq1, hbd1, a0, a1, a2, a3, a4⟩ := own_req (O1.out.fr f4 (by simp)) V1.out i hi
                  obtain ⟨k2, p2, Aq', cq', Ab', cb', rfl, hq2, hbd2, b0, b1, b2, b3, b4⟩ := own_req (O2.out.fr f4 (by simp)) V2.out i hi
                  have R1 := hid (show ReqR H2 (.agg #[.string (bs ys[i].1.m), .string (bs ys[i].1.p), .slice Aq ys[i].1.q.length cq, .bool ys[i].1.close, .slice Ab ys[i].1.body.length cb]) ys[i].1 from ⟨_, _, rfl, hq1, hbd1⟩)
                  have R2 := hid (show ReqR H2 (.agg #[.string (bs ys[i].1.m), .string (bs ys[i].1.p), .slice Aq' ys[i].1.q.length cq', .bool ys[i].1.close, .slice Ab' ys[i].1.body.length cb']) ys[i].1 from ⟨_, _, rfl, hq2, hbd2⟩)
                  have G4 := hid (N2.out.good.fr f4 (by simp))
                  clear hq1 hbd1 hq2 hbd2 f4
                  go_wp2
                  go_region_with (go_at_call 13; refine (sameRequest_ok H2 _ (G4.out.fr ((Fr.refl [] wr).drew) (by simp)) _ _ _ R1.out R2.out).mono ?_; rintro e w7 ⟨rfl, f7⟩; have F7 := hid f7; clear f7)
                  all_goals go_wp2
                  all_goals
                    go_roundg (gk - 1)
                    case measure => omega
                    case rel => exact ⟨i + 1, by simp, by omega, (F4.out.trans ((Fr.refl [] wr).drew)).trans F7.out⟩
                · clear f4
                  go_wp2
                  go_ret
                  exact ⟨rfl, F1.out.trans (N2.out.fr.trans F4.out)⟩
            · have hov : over2 = false := by simpa using hov
              subst hov
              have BASE := hid hb2
              have ov2 := h2.d2.cn.at_
              have OV2 := hid ov2
              clear ov2
              by_cases hzc : z2 < cuts.length
              · obtain ⟨kb, ko, rfl, hcc⟩ := cut_cell (fun k o h => h2.good k o (h2.ext.mono k o h)) HC.out z2 hzc
                have hrng := hcr cuts[z2] (List.getElem_mem hzc)
                have hcr1 := (row_room HC.out)
                have N2 := hid h2
                have ST := hid hst2
                clear h2 hst2
                go_wp2_with (first | (go_at_call 11; with_reducible refine (over_ok _ g2 bv2 _ OV2.out).mono ?_; rintro e w' ⟨rfl, rfl⟩) | (go_at_call 12; refine (pick_ok _ _ _ hrng (by omega) (by omega)).mono ?_; rintro e w' ⟨⟨k0, hk0, rfl⟩, rfl⟩; have q1 := byt_to BASE.out (k0 + 1) (by omega); obtain ⟨A9, c9, q2, q3⟩ := byt_from BASE.out (k0 + 1) (by omega); have hto := q1.1; rw [Int.natCast_add, Int.natCast_one] at hto q2; have BT := hid q1.2; have BF := hid q3; clear q1 q3))
                have HF := hid (feed_cn H2 wr N2.out.good g2 bv2 _ buf2 (rest.take (k0 + 1)) N2.out.d2.cn (RowR.ext BT.out N2.out.ext) (by have := N2.out.blen; simp; omega))
                refine HF.out.mono ?_
                intro e W9 hfd
                obtain rfl := hfd.1
                obtain ⟨bv3, h3⟩ := L2_feed N2.out ST.out (List.take_append_drop (k0 + 1) rest).symm hfd
                have HS3 := hid h3
                clear hfd h3 HF
                go_wp2_with fail
                go_loopg [8, 10] (b.length + 1) (fun k s8 s10 wr => L3 H w1 g1 g2 b bv buf over (.slice A7 xs.length c7) xs (pr ++ rest.take (k0 + 1)) (rest.drop (k0 + 1)) k s8 s10 wr)
                case atStart => exact ⟨H2, bv3, _, false, ys, rfl, HS3.out, fun _ => by have := HS3.out.blen; omega⟩
                case round =>
                  obtain ⟨H3, bv4, buf4, over4, ys4, rfl, h4, hk4⟩ := hrel
                  have E3 : Env H3 := EE.out.ext h4.ext
                  have hbl4 : buf4.length ≤ 2000000 := by have := h4.blen; omega
                  by_cases hst4 : Stop buf4 over4
                  · have hN := next_stop H3 wr E3 h4.good h4.d2 hbl4 hst4
                    have H4 := hid h4
                    have ST4 := hid hst4
                    clear h4 hst4 hk4
                    go_wp2_with (first | (go_at_call 10; refine hN.mono ?_; rintro e wr5 ⟨rfl, f1, y1, d1⟩; simp only [zeroV, reqZ]; have M5 := hid (L2_stop H4.out f1 y1 d1); clear f1 y1 d1 hN))
                    go_roundg (rest.drop (k0 + 1)).length
                    case measure => simp; omega
                    case rel => exact ⟨H3, bv4, buf4, over4, ys4, _, rest.drop (k0 + 1), z2 + 1, rfl, by simp, by simpa using BF.out, ST4.out, by simp; omega, Nat.le_refl _, L2_over M5.out ((Fr.refl [] _).alloc _)⟩
                  · obtain ⟨rfl, buf', over', p, hstep, hN⟩ := next_event H3 wr E3 h4.good h4.d2 hbl4 hst4
                    have hxl := h4.len
                    have HK0 := hid (hk4 rfl)
                    clear hk4
                    have H4 := hid h4
                    obtain ⟨_, ho9, _⟩ := h4.d2.own
                    obtain ⟨A10, c10, rfl⟩ := OwnR.slice ho9
                    clear h4 hst4 ho9
                    go_wp2_with (first
                      | (go_at_call 10; refine hN.mono ?_; rintro e wr5 ⟨q, bd, bv', H5, rfl, hq, hbd, f1, x1, y1, d1, hk1⟩; obtain ⟨Aq, cq, rfl⟩ := row_slice hq; obtain ⟨Ab, cb, rfl⟩ := row_slice hbd; obtain ⟨cs, ho, he⟩ := d1.own; have hO2 : ∀ o, OwnR (wr5.alloc o) _ 32 5 ys4.length cs := (fun o => ho.fr ((Fr.refl [] wr5).alloc o) (by simp)); have F2 := hid f1; have Y1 := hid y1; have D1 := hid d1; have X1 := hid x1; have HQ := hid hq; have HBD := hid hbd; have HK1 := hid hk1; have HE := hid he; have HO2 := hid hO2; clear f1 y1 d1 x1 hq hbd hk1 hN ho he hO2)
                      | (at_builtin; refine wp_appN rfl _ _ _ rfl elReq (HO2.out _) rfl rfl (by simp) rfl (by simp [Value.oneCell']) (by omega) (by omega) ?_; intro v4 w4 o4 gw4 at4; have O4 := hid o4; have G4 := hid gw4; have A4 := hid at4; clear o4 gw4 at4))
                    go_roundg (gk - 1)
                    case measure => have := HK0.out; omega
                    case rel =>
                      have hfa := (Fr.refl [] wr5).alloc (.cells #[.string (bs p.1.m), .string (bs p.1.p), .slice Aq p.1.q.length cq, .bool p.1.close, .slice Ab p.1.body.length cb] 32)
                      have hG2 := Y1.out.fr hfa (by simp)
                      have hf4 := Fr.of_grown G4.out
                      have hD2 := D1.out.fr hfa (by simp)
                      have hP := Dn.push hG2 hD2 HE.out HQ.out HBD.out hf4 O4.out A4.out
                      refine ⟨H5, bv', buf', over', ys4 ++ [p], by rw [lastSt_snoc], L2_round H4.out hstep F2.out X1.out (hG2.fr hf4 (fun x hx => (D1.out.no x (by simpa using hx)).1)) HK1.out ((Fr.mono hfa (by simp)).trans hf4) ?_ hP, fun h0 => ?_⟩
                      · rcases A4.out with e | ⟨k', e, hge⟩
                        · exact .inl e
                        · exact .inr ⟨k', e, by simp at hge; omega⟩
                      · have := HK0.out; have := hstep.lt h0; omega
              · have N2 := hid h2
                have ST := hid hst2
                clear h2 hst2
                obtain ⟨hto, hbt⟩ := byt_to BASE.out rest.length (Nat.le_refl _)
                obtain ⟨A9, c9, q2, q3⟩ := byt_from BASE.out rest.length (Nat.le_refl _)
                have BT := hid hbt
                have BF := hid q3
                clear hbt q3
                go_wp2_with (first | (go_at_call 11; with_reducible refine (over_ok _ g2 bv2 _ OV2.out).mono ?_; rintro e w' ⟨rfl, rfl⟩))
                have HF := hid (feed_cn H2 wr N2.out.good g2 bv2 _ buf2 (rest.take (rest.length)) N2.out.d2.cn (RowR.ext BT.out N2.out.ext) (by have := N2.out.blen; simp; omega))
                refine HF.out.mono ?_
                intro e W9 hfd
                obtain rfl := hfd.1
                obtain ⟨bv3, h3⟩ := L2_feed N2.out ST.out (List.take_append_drop (rest.length) rest).symm hfd
                have HS3 := hid h3
                clear hfd h3 HF
                go_wp2_with fail
                go_loopg [8, 10] (b.length + 1) (fun k s8 s10 wr => L3 H w1 g1 g2 b bv buf over (.slice A7 xs.length c7) xs (pr ++ rest.take (rest.length)) (rest.drop (rest.length)) k s8 s10 wr)
                case atStart => exact ⟨H2, bv3, _, false, ys, rfl, HS3.out, fun _ => by have := HS3.out.blen; omega⟩
                case round =>
                  obtain ⟨H3, bv4, buf4, over4, ys4, rfl, h4, hk4⟩ := hrel
                  have E3 : Env H3 := EE.out.ext h4.ext
                  have hbl4 : buf4.length ≤ 2000000 := by have := h4.blen; omega
                  by_cases hst4 : Stop buf4 over4
                  · have hN := next_stop H3 wr E3 h4.good h4.d2 hbl4 hst4
                    have H4 := hid h4
                    have ST4 := hid hst4
                    clear h4 hst4 hk4
                    go_wp2_with (first | (go_at_call 10; refine hN.mono ?_; rintro e wr5 ⟨rfl, f1, y1, d1⟩; simp only [zeroV, reqZ]; have M5 := hid (L2_stop H4.out f1 y1 d1); clear f1 y1 d1 hN))
                    go_roundg (rest.drop (rest.length)).length
                    case measure => simp; omega
                    case rel => exact ⟨H3, bv4, buf4, over4, ys4, _, rest.drop (rest.length), z2 + 1, rfl, by simp, by simpa using BF.out, ST4.out, by simp; omega, Nat.le_refl _, L2_over M5.out ((Fr.refl [] _).alloc _)⟩
                  · obtain ⟨rfl, buf', over', p, hstep, hN⟩ := next_event H3 wr E3 h4.good h4.d2 hbl4 hst4
                    have hxl := h4.len
                    have HK0 := hid (hk4 rfl)
                    clear hk4
                    have H4 := hid h4
                    obtain ⟨_, ho9, _⟩ := h4.d2.own
                    obtain ⟨A10, c10, rfl⟩ := OwnR.slice ho9
                    clear h4 hst4 ho9
                    go_wp2_with (first
                      | (go_at_call 10; refine hN.mono ?_; rintro e wr5 ⟨q, bd, bv', H5, rfl, hq, hbd, f1, x1, y1, d1, hk1⟩; obtain ⟨Aq, cq, rfl⟩ := row_slice hq; obtain ⟨Ab, cb, rfl⟩ := row_slice hbd; obtain ⟨cs, ho, he⟩ := d1.own; have hO2 : ∀ o, OwnR (wr5.alloc o) _ 32 5 ys4.length cs := (fun o => ho.fr ((Fr.refl [] wr5).alloc o) (by simp)); have F2 := hid f1; have Y1 := hid y1; have D1 := hid d1; have X1 := hid x1; have HQ := hid hq; have HBD := hid hbd; have HK1 := hid hk1; have HE := hid he; have HO2 := hid hO2; clear f1 y1 d1 x1 hq hbd hk1 hN ho he hO2)
                      | (at_builtin; refine wp_appN rfl _ _ _ rfl elReq (HO2.out _) rfl rfl (by simp) rfl (by simp [Value.oneCell']) (by omega) (by omega) ?_; intro v4 w4 o4 gw4 at4; have O4 := hid o4; have G4 := hid gw4; have A4 := hid at4; clear o4 gw4 at4))
                    go_roundg (gk - 1)
                    case measure => have := HK0.out; omega
                    case rel =>
                      have hfa := (Fr.refl [] wr5).alloc (.cells #[.string (bs p.1.m), .string (bs p.1.p), .slice Aq p.1.q.length cq, .bool p.1.close, .slice Ab p.1.body.length cb] 32)
                      have hG2 := Y1.out.fr hfa (by simp)
                      have hf4 := Fr.of_grown G4.out
                      have hD2 := D1.out.fr hfa (by simp)
                      have hP := Dn.push hG2 hD2 HE.out HQ.out HBD.out hf4 O4.out A4.out
                      refine ⟨H5, bv', buf', over', ys4 ++ [p], by rw [lastSt_snoc], L2_round H4.out hstep F2.out X1.out (hG2.fr hf4 (fun x hx => (D1.out.no x (by simpa using hx)).1)) HK1.out ((Fr.mono hfa (by simp)).trans hf4) ?_ hP, fun h0 => ?_⟩
                      · rcases A4.out with e | ⟨k', e, hge⟩
                        · exact .inl e
                        · exact .inr ⟨k', e, by simp at hge; omega⟩
                      · have := HK0.out; have := hstep.lt h0; omega
      · obtain ⟨rfl, buf', over', p, hstep, hN⟩ := next_event H1 wr E1 hL1.good hL1.d1 hbl hst
        have hxl := hL1.len2 rfl
        have HK0 := hid (hk rfl)
        clear hk
        have HL1 := hid hL1
        obtain ⟨_, ho7, _⟩ := hL1.d1.own
        obtain ⟨A7, c7, rfl⟩ := OwnR.slice ho7
        clear hL1 hst ho7
        go_wp2_with (first
          | (go_at_call 10; refine hN.mono ?_; rintro e wr1 ⟨q, bd, bv', H2, rfl, hq, hbd, f1, x1, y1, d1, hk1⟩; obtain ⟨Aq, cq, rfl⟩ := row_slice hq; obtain ⟨Ab, cb, rfl⟩ := row_slice hbd; obtain ⟨cs, ho, he⟩ := d1.own; have hO2 : ∀ o, OwnR (wr1.alloc o) _ 32 5 xs.length cs := (fun o => ho.fr ((Fr.refl [] wr1).alloc o) (by simp)); have F2 := hid f1; have Y1 := hid y1; have D1 := hid d1; have X1 := hid x1; have HQ := hid hq; have HBD := hid hbd; have HK1 := hid hk1; have HE := hid he; have HO2 := hid hO2; clear f1 y1 d1 x1 hq hbd hk1 hN ho he hO2)
          | (at_builtin; refine wp_appN rfl _ _ _ rfl elReq (HO2.out _) rfl rfl (by simp) rfl (by simp [Value.oneCell']) (by omega) (by omega) ?_; intro v4 w4 o4 gw4 at4; have O4 := hid o4; have G4 := hid gw4; have A4 := hid at4; clear o4 gw4 at4))
        go_roundg (gk - 1)
        case measure => have := HK0.out; omega
        case rel =>
          have hfa := (Fr.refl [] wr1).alloc (.cells #[.string (bs p.1.m), .string (bs p.1.p), .slice Aq p.1.q.length cq, .bool p.1.close, .slice Ab p.1.body.length cb] 32)
          have hG2 := Y1.out.fr hfa (by simp)
          have hf4 := Fr.of_grown G4.out
          have hD2 := D1.out.fr hfa (by simp)
          have hP := Dn.push hG2 hD2 HE.out HQ.out HBD.out hf4 O4.out A4.out
          refine ⟨H2, bv', buf', over', xs ++ [p], _, by rw [lastSt_snoc], rfl, L1_round HL1.out hstep F2.out X1.out (hG2.fr hf4 (fun x hx => (D1.out.no x (by simpa using hx)).1)) HK1.out ((Fr.mono hfa (by simp)).trans hf4) ?_ hP, fun h0 => ?_⟩
          · rcases A4.out with e | ⟨k', e, hge⟩
            · exact .inl e
            · exact .inr ⟨k', e, by simp at hge; omega⟩
          · have := HK0.out; have := hstep.lt h0; omega
end Go.Proofs.YtpofpgejhnlfjaaGreatDoor
