/- The kit's functions; the law's small ones. -/
import Derived.Test.YtpofpgejhnlfjaaGreatDoorHttpK
set_option linter.unusedVariables false
set_option linter.unusedSimpArgs false
set_option maxRecDepth 100000
namespace Go.Proofs.YtpofpgejhnlfjaaGreatDoor
open Go Go.RowKit Bpm Bph

theorem pick_ok (w : World) (n : Int) (m : Nat) (hn : -9223372036854775808 ≤ n ∧ n ≤ 9223372036854775807) (hm : 1 ≤ m) (hm2 : m ≤ 9223372036854775807) :
    Calls Tryz.prog 12 #[.int .i64 n, .int .i64 m] w fun e w' => (∃ k : Nat, k < m ∧ e = .returned (.int .i64 k)) ∧ w = w' := by
  have hm0 : ((m : Int) == 0) = false := by simp; omega
  have hm1 : ¬ ((m : Int) = 0) := by omega
  go_enter Tryz.func12, Tryz.ntmps12
  go_wp2
  all_goals go_ret
  · have h1 := Int.tmod_lt_of_pos n (show (0 : Int) < m by omega)
    have h2 : -(m : Int) < n.tmod m := by
      have := Int.neg_tmod n m
      have h3 := Int.tmod_lt_of_pos (-n) (show (0 : Int) < m by omega)
      omega
    refine ⟨⟨(n.tmod m + m).toNat, by omega, ?_⟩, rfl⟩
    have : wrap64 (n.tmod m + m) = n.tmod m + m := by rw [← IntWalk.i64_left]; exact IntWalk.i64_in _ (by omega)
    show Ending.returned (.int .i64 (wrap64 (n.tmod m + m))) = _
    rw [this, Int.toNat_of_nonneg (by omega)]
  · have h1 := Int.tmod_lt_of_pos n (show (0 : Int) < m by omega)
    refine ⟨⟨(n.tmod m).toNat, by omega, ?_⟩, rfl⟩
    show Ending.returned (.int .i64 (n.tmod m)) = _
    rw [Int.toNat_of_nonneg (by assumption)]

/-- A request that is read. -/
def ReqR (H : RO) (v : Value) (r : Req) : Prop := ∃ q bd, v = .agg #[.string (bs r.m), .string (bs r.p), q, .bool r.close, bd] ∧ ParR H q r.q ∧ BytR H bd r.body
theorem ReqR.ext {H H' : RO} {w : World} {v : Value} {r : Req} (h : ReqR H v r) (x : Ext H H' w) : ReqR H' v r := by
  obtain ⟨q, bd, e, h1, h2⟩ := h
  exact ⟨q, bd, e, RowR.ext h1 x, RowR.ext h2 x⟩
theorem row_room {H : RO} {A : Option Addr} {n m c : Nat} {cs : List Value} (h : RowR H (.slice A n c) m cs) : n ≤ c ∧ n ≤ 9223372036854775807 := by
  obtain ⟨A', c', e, h1, h2, _⟩ := h
  cases e
  exact ⟨h1, h2⟩
theorem parCells_get (l : List (List UInt8 × List UInt8)) (i : Nat) (hi : i < l.length) : (parCells l)[i * 2]? = some (.string (bs l[i].1)) ∧ (parCells l)[i * 2 + 1]? = some (.string (bs l[i].2)) := by
  induction l generalizing i with
  | nil => simp at hi
  | cons p r ih =>
    have e : parCells (p :: r) = .string (bs p.1) :: .string (bs p.2) :: parCells r := rfl
    rw [e]
    cases i with
    | zero => exact ⟨rfl, rfl⟩
    | succ j =>
      have h := ih j (by simpa using hi)
      have e1 : (j + 1) * 2 = j * 2 + 1 + 1 := by omega
      rw [e1]
      exact h
theorem par_cells {H : RO} {W : World} (hG : GoodH H W) {A : Option Addr} {n c : Nat} {l : List (List UInt8 × List UInt8)} (h : ParR H (.slice A n c) l) (i : Nat) (hi : i < l.length) :
    ∃ b o, A = some ⟨b, o, none⟩ ∧ W.cell? ⟨b, o + i * 2, none⟩ = some (.string (bs l[i].1)) ∧ W.cell? ⟨b, o + i * 2 + 1, none⟩ = some (.string (bs l[i].2)) := by
  obtain ⟨A', c', e, _, _, h⟩ := h
  cases e
  have hl := parCells_len l
  obtain ⟨b, o, cur, e, fr, rfl, hb, hj⟩ := h (by intro e; rw [e] at hl; simp at hl; omega)
  have hg := parCells_get l i hi
  refine ⟨b, o, rfl, ?_, ?_⟩
  · rw [blk_cell (hG _ _ hb), hj _ (by omega), hg.1]
  · rw [blk_cell (hG _ _ hb), Nat.add_assoc, hj _ (by omega), hg.2]
def SrI (W2 : World) (n : Nat) (k : Nat) (s : Value) (W : World) : Prop := ∃ (i q : Nat), s = .int .i64 i ∧ i + k = n ∧ W = W2.drewN q
set_option maxHeartbeats 4000000 in
theorem sameRequest_ok (H : RO) (w : World) (hG : GoodH H w) (a b : Value) (r : Req) (ha : ReqR H a r) (hb : ReqR H b r) :
    Calls Tryz.prog 13 #[a, b] w fun e w' => e = .returned (.bool true) ∧ Fr [] w w' := by
  obtain ⟨qa, ba, rfl, hqa, hba⟩ := ha
  obtain ⟨qb, bb, rfl, hqb, hbb⟩ := hb
  obtain ⟨A1, c1, rfl⟩ := row_slice hqa
  obtain ⟨A2, c2, rfl⟩ := row_slice hqb
  obtain ⟨A3, c3, rfl⟩ := row_slice hba
  obtain ⟨A4, c4, rfl⟩ := row_slice hbb
  have fal : ∀ o1 o2, Fr [] w ((w.alloc o1).alloc o2) := fun o1 o2 => ((Fr.refl [] w).alloc _).alloc _
  have cv3 : ∀ o1 o2, (convert 22 9 (.slice A3 r.body.length c3)).run Tryz.prog ((w.alloc o1).alloc o2) = .ok (.string (bs r.body)) ((w.alloc o1).alloc o2) := fun o1 o2 => conv_row (e := 5) (by kernel_rfl) (by kernel_rfl) (by kernel_rfl) (hG.fr (fal o1 o2) (by simp)) hba
  have cv4 : ∀ o1 o2, (convert 22 9 (.slice A4 r.body.length c4)).run Tryz.prog ((w.alloc o1).alloc o2) = .ok (.string (bs r.body)) ((w.alloc o1).alloc o2) := fun o1 o2 => conv_row (e := 5) (by kernel_rfl) (by kernel_rfl) (by kernel_rfl) (hG.fr (fal o1 o2) (by simp)) hbb
  have HG := hid hG
  have FA := hid fal
  have hQa := hid hqa
  have hQb := hid hqb
  clear hG fal hqa hqb
  go_enter Tryz.func13, Tryz.ntmps13
  go_wp2
  have b1 := blk_alloc (blk_new w (.cells #[.string (bs r.m), .string (bs r.p), .slice A1 r.q.length c1, .bool r.close, .slice A3 r.body.length c3] 32)) (.cells #[.string (bs r.m), .string (bs r.p), .slice A2 r.q.length c2, .bool r.close, .slice A4 r.body.length c4] 32)
  have b2 := blk_new (w.alloc (.cells #[.string (bs r.m), .string (bs r.p), .slice A1 r.q.length c1, .bool r.close, .slice A3 r.body.length c3] 32)) (.cells #[.string (bs r.m), .string (bs r.p), .slice A2 r.q.length c2, .bool r.close, .slice A4 r.body.length c4] 32)
  have FW := hid (FA.out (.cells #[.string (bs r.m), .string (bs r.p), .slice A1 r.q.length c1, .bool r.close, .slice A3 r.body.length c3] 32) (.cells #[.string (bs r.m), .string (bs r.p), .slice A2 r.q.length c2, .bool r.close, .slice A4 r.body.length c4] 32))
  generalize (w.alloc _).alloc _ = W2 at b1 b2 FW ⊢
  rw [World.size_alloc] at b2
  have B1 := hid b1
  have B2 := hid b2
  clear cv3 cv4 b1 b2
  go_loopg [5] r.q.length (fun k s wr => SrI W2 r.q.length k s wr)
  case atStart => exact ⟨0, 0, rfl, by omega, rfl⟩
  case round =>
    obtain ⟨i, q, rfl, hik, rfl⟩ := hrel
    have e1 := blk_cell B1.out 2
    have e2 := blk_cell B2.out 2
    simp at e1 e2
    by_cases hi : i < r.q.length
    · have hGW := HG.out.fr FW.out (by simp)
      obtain ⟨k1, o1, rfl, x1, x2⟩ := par_cells hGW hQa.out i hi
      obtain ⟨k2, o2, rfl, x3, x4⟩ := par_cells hGW hQb.out i hi
      clear hGW
      have hn1 := row_room hQa.out
      have hn2 := row_room hQb.out
      go_wp2
      go_quiet (fail)
      go_wp2
      go_roundg (gk - 1)
      case measure => omega
      case rel => exact ⟨i + 1, _, by simp, by omega, rfl⟩
    · go_wp2
      go_ret
      exact ⟨rfl, FW.out.drewN _⟩
end Go.Proofs.YtpofpgejhnlfjaaGreatDoor
