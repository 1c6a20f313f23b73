/- The reader of a request: its line. -/
import Derived.Test.YtpofpgejhnlfjaaGreatDoorHttpE
import Derived.Lib.SlBytesConst
import Derived.BigQuiet
set_option linter.unusedVariables false
set_option linter.unusedSimpArgs false
set_option maxRecDepth 100000
namespace Go.Proofs.YtpofpgejhnlfjaaGreatDoor
open Go Go.RowKit Bpm Bph

theorem elB : ElemT Tryz.prog 22 5 1 1 (.int .u8 0) := ⟨by kernel_rfl, by kernel_rfl, rfl, by omega⟩
theorem byt_slice {w : World} {v : Value} {l : List UInt8} (h : BytW w v l) : ∃ A c, v = .slice A l.length c ∧ l.length ≤ c := by
  obtain ⟨A, c, rfl, hc, _⟩ := h
  exact ⟨A, c, rfl, hc⟩
theorem byt_cells {w : World} {A : Option Addr} {n c : Nat} {l : List UInt8} (h : BytW w (.slice A n c) l) (hl : l ≠ []) : ∃ b o, A = some ⟨b, o, none⟩ ∧ b < w.heap.size ∧ ∀ j, j < l.length → w.cell? ⟨b, o + j, none⟩ = (u8s l)[j]? := by
  obtain ⟨A', c', e, hc, hn, h⟩ := h
  cases e
  obtain ⟨b, o, cur, e', fr, rfl, hb, hj⟩ := h (by simpa [u8s] using hl)
  exact ⟨b, o, rfl, blk_lt hb, fun j hj' => by rw [blk_cell hb, hj j (by rw [u8s_len]; exact hj')]⟩
/-- The cut 'b[k:]'. -/
theorem from_cut {w : World} {A : Option Addr} {c : Nat} {l : List UInt8} (h : BytW w (.slice A l.length c) l) (hc : l.length ≤ c) (k : Nat) (hk : k ≤ l.length) :
    ∃ A' c', (∀ W : World, (Instr.slice 22 (.slice A l.length c) (some (.int .i64 k)) none none).run Tryz.prog W = .ok (.slice A' (l.length - k) c') W) ∧ BytW w (.slice A' (l.length - k) c') (l.drop k) ∧ l.length - k ≤ c' ∧
      (Value.slice A' (l.length - k) c').ownBlock = (Value.slice A l.length c).ownBlock :=
  ⟨_, _, fun W => from_run elB A l.length c k hk W, h.drop rfl k hk, by omega, cut_block _ _ _ _ _ _ _⟩
theorem to_cut {w : World} {A : Option Addr} {c n : Nat} {l : List UInt8} (h : BytW w (.slice A n c) l) (hl : l.length = n) (hc : n ≤ c) (k : Nat) (hk : k ≤ n) :
    (∀ W : World, (Instr.slice 22 (.slice A n c) none (some (.int .i64 k)) none).run Tryz.prog W = .ok (.slice A k c) W) ∧ BytW w (.slice A k c) (l.take k) := by
  subst hl
  refine ⟨fun W => to_run elB A l.length c k (by omega) W, ?_⟩
  have := RowR.to (sz := 1) h (by simp [u8s]) k hk
  unfold BytW BytR
  rw [show (l.take k).length = k by simp; omega, show u8s (l.take k) = (u8s l).take (k * 1) by simp [u8s, List.map_take]]
  exact this
theorem mid_cut {w : World} {A : Option Addr} {c : Nat} {l : List UInt8} (h : BytW w (.slice A l.length c) l) (hc : l.length ≤ c) (k m : Nat) (hm : k + m ≤ l.length) :
    ∃ A' c', (∀ W : World, (Instr.slice 22 (.slice A l.length c) (some (.int .i64 k)) (some (.int .i64 ((k + m : Nat) : Int))) none).run Tryz.prog W = .ok (.slice A' m c') W) ∧ BytW w (.slice A' m c') ((l.drop k).take m) ∧ m ≤ c' := by
  refine ⟨_, _, fun W => by have := cut_run elB A l.length c k (k + m) (by omega) (by omega) W; rwa [Nat.add_sub_cancel_left] at this, ?_, show m ≤ c - k by omega⟩
  have := RowR.cut (sz := 1) h (by simp [u8s]) k (k + m) (by omega) hm
  rw [Nat.add_sub_cancel_left] at this
  unfold BytW BytR
  rw [show ((l.drop k).take m).length = m by simp; omega, show u8s ((l.drop k).take m) = ((u8s l).drop (k * 1)).take (m * 1) by simp [u8s, List.map_take, List.map_drop]]
  exact this
theorem convW {w : World} {v : Value} {l : List UInt8} (h : BytW w v l) : (convert 22 9 v).run Tryz.prog w = .ok (.string (bs l)) w :=
  conv_row (e := 5) (by kernel_rfl) (by kernel_rfl) (by kernel_rfl) (BytW.good w) h

/-- bytes.Index of 13 10. -/
theorem index2_ok (A : Option Addr) (n c k c2 : Nat) (l : List UInt8) (w : World) (h : BytW w (.slice A n c) l) (hl : l.length = n) (hs : n ≤ 2000000) (hm : Mx w)
    (fr : Nat × Nat) (hk : w.heap[k]? = some (.cells #[.int .u8 13, .int .u8 10] 5 fr)) :
    Calls Tryz.prog 88 #[.slice A n c, .slice (some ⟨k, 0, none⟩) 2 c2] w fun e w' => e = .returned (.int .i64 (crlfI l)) ∧ ∃ q, w' = w.drewN q := by
  have hc : n ≤ c := by obtain ⟨A', c', e, hc, _⟩ := h; cases e; omega
  by_cases h2 : n < 2
  · refine (Tryz.bytes_Index_longer A _ n c 2 c2 w (by omega) h2 (by omega)).mono ?_
    rintro e w' ⟨rfl, rfl⟩
    refine ⟨?_, 0, rfl⟩
    have : crlf l = none := by
      cases e : crlf l with
      | none => rfl
      | some m => have := (crlf_some e).1; omega
    rw [crlfI_none this]
  · obtain ⟨b, o, rfl, _, hj⟩ := byt_cells h (by rintro rfl; simp at hl; omega)
    obtain ⟨m, hm⟩ := hm
    have hx : ∀ i, i < n → w.cell? ((⟨b, o, none⟩ : Addr).add i) = some (.int .u8 ((l.map fun c => (c.toNat : Int)).getD i 0)) := by
      intro i hi
      rw [add_off, hj i (by omega)]
      simp [u8s, u8, List.getD, List.getElem?_map, List.getElem?_eq_getElem (show i < l.length by omega)]
    have hy : ∀ i, i < 2 → w.cell? ((⟨k, 0, none⟩ : Addr).add i) = some (.int .u8 (([13, 10] : List Int).getD i 0)) := by
      intro i hi
      rw [add_off, blk_cell hk]
      rcases i with _ | _ | i
      · rfl
      · rfl
      · omega
    refine (Tryz.bytes_Index_at ⟨b, o, none⟩ ⟨k, 0, none⟩ n c 2 c2 (l.map fun c => (c.toNat : Int)) [13, 10] m w (by simpa using hl) rfl ?_ (by simp) hx hy hc (by omega) (by omega) hm).mono ?_
    · intro x hx
      obtain ⟨u, _, rfl⟩ := List.mem_map.1 hx
      have := u.toNat_lt
      omega
    · rintro e w' ⟨rfl, hq⟩
      refine ⟨?_, hq⟩
      rw [← index2]
      have h1 : Lib.bytesOf (l.map fun c => (c.toNat : Int)) = l := by
        unfold Lib.bytesOf
        rw [List.map_map]
        conv => rhs; rw [← List.map_id l]
        refine List.map_congr_left fun c _ => ?_
        simp
      rw [h1]
      rfl

/-- What a reader holds. -/
structure Rd where
  at_ : Nat
  m : List UInt8
  p : List UInt8
  q : Value
  close : Bool
  body : Value
  hd : Nat
  len : Int
  st : Int
  wh : Bool
def Rd.cells (x : Rd) (bv : Value) : Array Value := #[bv, .int .i64 x.at_, .string (bs x.m), .string (bs x.p), x.q, .bool x.close, x.body, .int .i64 x.hd, .int .i64 x.len, .int .i64 x.st, .bool x.wh]
def RdAt (w : World) (g : Nat) (bv : Value) (x : Rd) : Prop := w.heap[g]? = some (.cells (x.cells bv) 65 (0, 0))
theorem RdAt.set_at {w : World} {g : Nat} {bv : Value} {x : Rd} (h : RdAt w g bv x) (k : Nat) : RdAt (w.setCell ⟨g, 1, none⟩ (.int .i64 k)) g bv { x with at_ := k } := blk_set h 1 _
theorem RdAt.set_st {w : World} {g : Nat} {bv : Value} {x : Rd} (h : RdAt w g bv x) (k : Int) : RdAt (w.setCell ⟨g, 9, none⟩ (.int .i64 k)) g bv { x with st := k } := blk_set h 9 _
theorem RdAt.fr {w w' : World} {g : Nat} {bv : Value} {x : Rd} (h : RdAt w g bv x) {S : List Nat} (f : Fr S w w') (hg : g ∉ S) : RdAt w' g bv x := f.blk h hg

def LinePost (w : World) (g : Nat) (bv : Value) (x : Rd) (buf : List UInt8) (e : Ending) (w' : World) : Prop :=
  Fr [g] w w' ∧ match lineS (buf.drop x.at_) with
  | .more => e = .returned (.tuple #[.string ⟨#[]⟩, .bool false]) ∧ RdAt w' g bv x
  | .bad => e = .returned (.tuple #[.string ⟨#[]⟩, .bool false]) ∧ ∃ k, RdAt w' g bv { x with st := 400, at_ := k }
  | .got s => e = .returned (.tuple #[.string (bs s), .bool true]) ∧ RdAt w' g bv { x with at_ := x.at_ + s.length + 2 }

set_option maxHeartbeats 4000000 in
theorem line_ok (w : World) (g : Nat) (bv : Value) (x : Rd) (buf : List UInt8) (hr : RdAt w g bv x) (hM : Mx w) (hB : BytW w bv buf) (hle : x.at_ ≤ buf.length) (hb : buf.length ≤ 2000000) :
    Calls Tryz.prog 63 #[.pointer (some ⟨g, 0, none⟩)] w (LinePost w g bv x buf) := by
  obtain ⟨A, c, rfl, hlc⟩ := byt_slice hB
  obtain ⟨A', c', hcut, hB2, hc2, _⟩ := from_cut hB hlc x.at_ hle
  have c0 := blk_cell hr 0
  have c1 := blk_cell hr 1
  simp [Rd.cells] at c0 c1
  have kc : ∀ m : Nat, (convert 22 22 (.slice (some ⟨w.heap.size, 0, none⟩) 2 2)).run Tryz.prog ((w.drewN m).alloc (.cells #[.int .u8 13, .int .u8 10] 5)) = .ok (.slice (some ⟨w.heap.size, 0, none⟩) 2 2) ((w.drewN m).alloc (.cells #[.int .u8 13, .int .u8 10] 5 (2, 3))) := fun (m : Nat) => Lib.run_convert_bytes_const (P := Tryz.prog) (w.drewN m) 22 5 #[.int .u8 13, .int .u8 10] 2 2 Tryz.underlying22 Tryz.underlying5
  have hR := hid hr
  clear hr hB
  go_enter Tryz.func63, Tryz.ntmps63
  go_wp2
  go_quiet (fail)
  rename_i nq
  have f1 : Fr [] w ((w.drewN nq).alloc (.cells #[.int .u8 13, .int .u8 10] 5 (2, 3))) := ((Fr.refl [] w).drewN nq).alloc _
  have n1 : ((w.drewN nq).alloc (.cells #[.int .u8 13, .int .u8 10] 5 (2, 3))).heap[w.heap.size]? = some (.cells #[.int .u8 13, .int .u8 10] 5 (2, 3)) := blk_new (w.drewN nq) _
  have kw := kc nq
  generalize (w.drewN nq).alloc (.cells #[.int .u8 13, .int .u8 10] 5 (2, 3)) = W at f1 n1 kw
  have hR1 := RdAt.fr hR.out f1 (by simp)
  have d1 := blk_cell hR1 1
  have d9 := blk_cell hR1 9
  have e1 := blk_free hR1 1
  have e9 := blk_free hR1 9
  simp [Rd.cells] at d1 d9
  have hI : Calls Tryz.prog 88 #[.slice A' (buf.length - x.at_) c', .slice (some ⟨w.heap.size, 0, none⟩) 2 2] W fun e w' => e = .returned (.int .i64 (crlfI (buf.drop x.at_))) ∧ ∃ q, w' = W.drewN q := index2_ok _ _ _ _ _ _ _ (hB2.fr f1 (by simp)) (by simp) (by omega) (hM.fr f1 (by simp)) _ n1
  have HR := hid hR1
  have F1 := hid f1
  have hB3 := hB2.fr f1 (by simp)
  clear hR1 f1 n1 kc c0 c1 hB2 hR
  have hll : (buf.drop x.at_).length = buf.length - x.at_ := by simp
  cases e : crlf (buf.drop x.at_) with
  | none =>
    rw [crlfI_none e] at hI
    by_cases h98 : 4098 ≤ buf.length - x.at_
    · have HL := hid (show lineS (buf.drop x.at_) = .bad by unfold lineS; rw [e]; simp only; rw [if_pos (by omega)])
      go_wp2_with (go_at_call 88; refine hI.mono ?_; rintro e w' ⟨rfl, q, rfl⟩)
      go_ret2
      exact ⟨(((Fr.mono F1.out (by simp)).drewN _).setCell (.inl (by simp)) _), by rw [HL.out]; exact ⟨rfl, x.at_, HR.out.set_st 400⟩⟩
    · have HL := hid (show lineS (buf.drop x.at_) = .more by unfold lineS; rw [e]; simp only; rw [if_neg (by omega)])
      go_wp2_with (go_at_call 88; refine hI.mono ?_; rintro e w' ⟨rfl, q, rfl⟩)
      go_ret2
      exact ⟨(((Fr.mono F1.out (by simp)).drewN _)), by rw [HL.out]; exact ⟨rfl, HR.out⟩⟩
  | some n =>
    rw [crlfI_some e] at hI
    have hn := (crlf_some e).1
    by_cases h96 : n ≤ 4096
    · obtain ⟨hto, hB4⟩ := to_cut hB3 hll hc2 n (by omega)
      have hcv : ∀ q, (convert 22 9 (.slice A' n c')).run Tryz.prog (W.drewN q) = .ok (.string (bs ((buf.drop x.at_).take n))) (W.drewN q) := fun q => convW (w := W.drewN q) hB4
      have hsz : (bs ((buf.drop x.at_).take n)).size ≤ maxLen := by rw [size_bs]; unfold maxLen; simp; omega
      have hln : ((buf.drop x.at_).take n).length = n := by simp; omega
      cases h4 : ((buf.drop x.at_).take n).all isLin with
      | false =>
        have HL := hid (show lineS (buf.drop x.at_) = .bad by unfold lineS; rw [e]; simp only; rw [if_neg (by simp [h4])])
        go_wp2_with (first | (go_at_call 88; refine hI.mono ?_; rintro e w' ⟨rfl, q, rfl⟩) | (go_at_call 38; refine (all_isLin _ _ hsz).mono ?_; rintro e w' ⟨rfl, rfl⟩; rw [tl_bs]))
        go_ret2
        refine ⟨((((Fr.mono F1.out (by simp)).drewN _).setCell (.inl (by simp)) _).setCell (.inl (by simp)) _), ?_⟩
        rw [HL.out]
        refine ⟨rfl, x.at_ + (n + 2), ?_⟩
        have := (RdAt.set_at (w := W.drewN q) HR.out (x.at_ + (n + 2))).set_st 400
        simpa using this
      | true =>
        have HL := hid (show lineS (buf.drop x.at_) = .got ((buf.drop x.at_).take n) by unfold lineS; rw [e]; simp only; rw [if_pos ⟨h96, h4⟩])
        go_wp2_with (first | (go_at_call 88; refine hI.mono ?_; rintro e w' ⟨rfl, q, rfl⟩) | (go_at_call 38; refine (all_isLin _ _ hsz).mono ?_; rintro e w' ⟨rfl, rfl⟩; rw [tl_bs]))
        go_ret2
        refine ⟨(((Fr.mono F1.out (by simp)).drewN _).setCell (.inl (by simp)) _), ?_⟩
        rw [HL.out]
        refine ⟨rfl, ?_⟩
        have := (RdAt.set_at (w := W.drewN q) HR.out (x.at_ + (n + 2)))
        rw [hln, Nat.add_assoc]
        simpa using this
    · have HL := hid (show lineS (buf.drop x.at_) = .bad by unfold lineS; rw [e]; simp only; rw [if_neg (by omega)])
      go_wp2_with (go_at_call 88; refine hI.mono ?_; rintro e w' ⟨rfl, q, rfl⟩)
      go_ret2
      exact ⟨(((Fr.mono F1.out (by simp)).drewN _).setCell (.inl (by simp)) _), by rw [HL.out]; exact ⟨rfl, x.at_, HR.out.set_st 400⟩⟩
end Go.Proofs.YtpofpgejhnlfjaaGreatDoor
