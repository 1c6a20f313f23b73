/- strings.SplitSeq: what the iterator hands to a loop. -/
import Derived.Test.YtpofpgejhnlfjaaGreatDoorHttpB
import Derived.Test.YtpofpgejhnlfjaaGreatDoorRange
import Derived.Test.YtpofpgejhnlfjaaGreatDoorText
import Derived.Test.YtpofpgejhnlfjaaGreatDoorShelf
set_option linter.unusedVariables false
set_option linter.unusedSimpArgs false
set_option maxRecDepth 100000
namespace Go.Proofs.YtpofpgejhnlfjaaGreatDoor
open Go Go.RowKit Bpm Bph
attribute [local go_sem] Oper.semAt_some

/-- The variable that strings' searches read. -/
def Mx (w : World) : Prop := ∃ m, w.cell? ⟨0, 0, none⟩ = some (.int .i64 m)
theorem Mx.fr {S : List Nat} {w w' : World} (h : Mx w) (f : Fr S w w') (hn : 0 ∉ S) : Mx w' := by
  obtain ⟨m, h⟩ := h
  exact ⟨m, f.cell h hn⟩

theorem index_ok (s : ByteArray) (c : UInt8) (w : World) (hm : Mx w) (hs : s.size < 4294967281) :
    Calls Tryz.prog 101 #[.string s, .string ⟨#[c]⟩] w fun e w' => e = .returned (.int .i64 (idxI c (tl s))) ∧ w = w' := by
  obtain ⟨m, hm⟩ := hm
  refine (Tryz.strings_Index s ⟨#[c]⟩ m w hs hm).mono ?_
  rintro e w' ⟨rfl, rfl⟩
  refine ⟨?_, rfl⟩
  rw [tl_eq, show (⟨#[c]⟩ : ByteArray).data.toList = [c] from rfl, index1]
theorem cut_ok (s : ByteArray) (c : UInt8) (w : World) (hm : Mx w) (hs : s.size < 4294967281) :
    Calls Tryz.prog 40 #[.string s, .string ⟨#[c]⟩] w fun e w' => e = .returned (.tuple #[.string (bs (cutB c (tl s)).1), .string (bs (cutB c (tl s)).2.1), .bool (cutB c (tl s)).2.2]) ∧ ∃ n, w' = w.drewN n := by
  obtain ⟨m, hm⟩ := hm
  refine (Tryz.strings_Cut s ⟨#[c]⟩ m w hs hm).mono ?_
  rintro e w' ⟨rfl, h⟩
  refine ⟨?_, h⟩
  rw [tl_eq, show (⟨#[c]⟩ : ByteArray).data.toList = [c] from rfl, cut1]
  rfl

theorem splitSeq_ok (s : ByteArray) (w : World) :
    Calls Tryz.prog 42 #[.string s, .string ⟨#[38]⟩] w fun e w' => e = .returned (.func (.func 99) #[] #[.pointer (some ⟨w.heap.size + 1, 0, none⟩), .pointer (some ⟨w.heap.size, 0, none⟩), .pointer (some ⟨w.heap.size + 2, 0, none⟩)]) ∧
      ((w.alloc (.cells #[.string s] 9)).alloc (.cells #[.string ⟨#[38]⟩] 9)).alloc (.cells #[.int .i64 0] 3) = w' := by
  go_enter Tryz.func42, Tryz.ntmps42
  go_wp2
  go_ret
  exact ⟨rfl, rfl⟩

def strAt (w : World) (b : Nat) : Nat := match w.cell? ⟨b, 0, none⟩ with | some (.string s) => s.size | _ => 0
theorem strAt_of {w : World} {b : Nat} {s : ByteArray} {t : TypeId} {fr : Nat × Nat} (h : w.heap[b]? = some (.cells #[.string s] t fr)) : strAt w b = s.size := by
  unfold strAt; rw [blk_cell h]; rfl
theorem splitSeq_iter (s : ByteArray) (b0 b1 b2 : Nat) (h01 : b0 ≠ b1) (h02 : b0 ≠ b2) (h12 : b1 ≠ b2) (hn0 : b0 ≠ 0) (w : World) (hs : s.size < 4294967281) (hm : Mx w)
    (h0 : w.heap[b0]? = some (.cells #[.string s] 9 (0, 0))) (h1 : w.heap[b1]? = some (.cells #[.string ⟨#[38]⟩] 9 (0, 0))) (h2 : w.heap[b2]? = some (.cells #[.int .i64 0] 3 (0, 0))) :
    Iter (α := List UInt8) Tryz.prog 99 #[.pointer (some ⟨b1, 0, none⟩), .pointer (some ⟨b0, 0, none⟩), .pointer (some ⟨b2, 0, none⟩)] (fun x => #[.string (bs x)]) [b0, b1, b2] [0] (splitB 38 (tl s)) w := by
  intro l J Jx W hW hY hJ hJx hJ0
  have k0 := hW.blk h0 (by simp)
  have k1 := hW.blk h1 (by simp)
  have k2 := hW.blk h2 (by simp)
  have km := hm.fr hW (by simp)
  refine callsIn_of_wp Tryz.func99 rfl trivial ?_ rfl
  simp only [Tryz.ntmps99, List.size_toArray, List.length_cons, List.length_nil, Nat.reduceAdd, Nat.reduceSub, Array.replicate_succ, Array.replicate_zero, List.push_toArray, List.append_toArray, List.nil_append, List.cons_append]
  have c1 := (blk_cell k1 0)
  simp at c1
  gi_wp2
  gi_loopw [7] (fun i wr => ∃ (pre : List (List UInt8)) (rest : ByteArray), splitB 38 (tl s) = pre ++ splitB 38 (tl rest) ∧ rest.size < 4294967281 ∧ wr.heap[b0]? = some (.cells #[.string rest] 9 (0, 0)) ∧ wr.heap[b1]? = some (.cells #[.string ⟨#[38]⟩] 9 (0, 0)) ∧ wr.heap[b2]? = some (.cells #[.int .i64 0] 3 (0, 0)) ∧ Mx wr ∧ J pre wr)
    (fun _ wr => strAt wr b0)
  case atStart => exact ⟨[], s, rfl, hs, k0, k1, k2, km, hJ0⟩
  case round =>
    obtain ⟨pre, rest, hx, hl, k0, k1, k2, km, hJp⟩ := hrel
    have c0 := (blk_cell k0 0)
    have c1 := (blk_cell k1 0)
    have c2 := (blk_cell k2 0)
    simp at c0 c1 c2
    cases hi : idx 38 (tl rest) with
    | none =>
      have hii := idxI_none hi
      have hx' : splitB 38 (tl s) = pre ++ tl rest :: [] := by rw [hx, split_none hi]
      obtain ⟨fn, tmps, assign, body, hy, hR⟩ := hY pre (tl rest) [] wr hJp hx'
      have HX := hid hx'
      clear hx hx' hi
      rw [bs_tl] at hy
      gi_wp2_with (refine ⟨trivial, rfl, ?_⟩; gi_at_call 101; refine (callsIn_wide.2 (index_ok rest 38 _ km hl)).mono ?_; rintro e w' ⟨rfl, rfl⟩)
      refine ⟨rfl, hR.mono ?_⟩
      rintro e W3 ⟨hL, ⟨rfl, hJ3⟩ | ⟨rfl, hJx3⟩⟩
      · gi_wp2
        go_end0
        exact ⟨⟨_, rfl⟩, .inl (by rw [HX.out]; exact hJ3)⟩
      · gi_wp2
        go_end0
        exact ⟨⟨_, rfl⟩, .inr ⟨_, ⟨[], by rw [HX.out]; simp⟩, hJx3⟩⟩
    | some n =>
      have hii := idxI_some hi
      have hn := (idx_some hi).1
      rw [tl_len] at hn
      have hx' : splitB 38 (tl s) = pre ++ (tl rest).take n :: splitB 38 ((tl rest).drop (n + 1)) := by rw [hx, split_some hi]
      obtain ⟨fn, tmps, assign, body, hy, hR⟩ := hY pre _ _ wr hJp hx'
      have HX := hid hx'
      clear hx hx' hi
      rw [← tl_take, bs_tl] at hy
      gi_wp2_with (refine ⟨trivial, rfl, ?_⟩; gi_at_call 101; refine (callsIn_wide.2 (index_ok rest 38 _ km hl)).mono ?_; rintro e w' ⟨rfl, rfl⟩)
      refine ⟨rfl, hR.mono ?_⟩
      rintro e W3 ⟨hL, ⟨rfl, hJ3⟩ | ⟨rfl, hJx3⟩⟩
      · have k0' := (hL.same b0 (by simp)).trans k0
        have k1' := (hL.same b1 (by simp)).trans k1
        have k2' := (hL.same b2 (by simp)).trans k2
        have km' : Mx W3 := by
          obtain ⟨m, hm⟩ := km
          exact ⟨m, (World.cell?_of_block (hL.same 0 (by simp))).trans hm⟩
        have d0 := (blk_cell k0' 0)
        have d1 := (blk_cell k1' 0)
        have f0 := blk_free k0' 0
        simp at d0 d1
        gi_wp2
        refine ⟨?_, ?_⟩
        · refine ⟨pre ++ [(tl rest).take n], rest.extract (n + 1) rest.size, by rw [HX.out, tl_drop]; simp, by simp; omega, by simpa using blk_set k0' 0 _, blk_set_far k1' (Ne.symm h01) _, blk_set_far k2' (Ne.symm h02) _, km'.fr ((Fr.refl [b0] W3).setCell (.inl (by simp)) _) (by simpa using Ne.symm hn0), hJ _ _ _ hJ3 ((Fr.refl _ _).setCell (.inl (by simp)) _)⟩
        · rw [strAt_of k0, strAt_of (by simpa using blk_set k0' 0 (.string (rest.extract (n + 1) rest.size)))]
          simp; omega
      · gi_wp2
        refine bodyPost_ret (results_none rfl _ _ _) rfl ?_
        exact ⟨⟨_, rfl⟩, .inr ⟨_, ⟨splitB 38 ((tl rest).drop (n + 1)), by rw [HX.out]; simp⟩, hJx3⟩⟩
end Go.Proofs.YtpofpgejhnlfjaaGreatDoor
