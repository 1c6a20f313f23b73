/- Memory lemmas, second part: bytes made of a string; a row that is written in place. -/
import Derived.Test.YtpofpgejhnlfjaaGreatDoorMem
import Derived.Lib.ConvBytes
set_option linter.unusedVariables false
set_option linter.unusedSimpArgs false
namespace Bpm
open Go Go.RowKit

theorem idx_take_succ (s : ByteArray) (k : Nat) (h : k < s.size) : (tl s).take (k + 1) = (tl s).take k ++ [s[k]] := take_succ_get s k h
/-- The block of 'b := []byte(s)': its cells; nothing of them is frozen. -/
def RowB (w : World) (g : Nat) (e : TypeId) (l : List UInt8) : Prop := ∃ C lo hi, w.heap[g]? = some (.cells C e (lo, hi)) ∧ l.length ≤ C.size ∧ l.length ≤ lo ∧ ∀ j, j < l.length → C[j]? = (u8s l)[j]?
theorem RowB.cell {w : World} {g : Nat} {e : TypeId} {l : List UInt8} (h : RowB w g e l) (j : Nat) (hj : j < l.length) : w.cell? ⟨g, j, none⟩ = some (.int .u8 l[j].toNat) := by
  obtain ⟨C, lo, hi, hb, _, _, hc⟩ := h
  rw [blk_cell hb, hc j hj]
  simp [u8s, u8, hj]
theorem RowB.free {w : World} {g : Nat} {e : TypeId} {l : List UInt8} (h : RowB w g e l) (j : Nat) (hj : j < l.length) : w.frozen? ⟨g, j, none⟩ = false := by
  obtain ⟨C, lo, hi, hb, _, hlo, hc⟩ := h
  simp [World.frozen?, hb]
  omega
theorem RowB.set {w : World} {g : Nat} {e : TypeId} {l : List UInt8} (h : RowB w g e l) (j : Nat) (c : UInt8) : RowB (w.setCell ⟨g, j, none⟩ (.int .u8 c.toNat)) g e (l.set j c) := by
  obtain ⟨C, lo, hi, hb, h1, h2, hc⟩ := h
  refine ⟨_, lo, hi, blk_set hb j _, by simpa using h1, by simpa using h2, fun i hi' => ?_⟩
  have hi : i < l.length := by simpa using hi'
  rw [Array.getElem?_setIfInBounds]
  have hcs := h1
  split
  · rename_i hij
    subst hij
    rw [if_pos (by omega)]
    simp [u8s, u8, hi]
  · rename_i hij
    rw [hc i hi]
    simp [u8s, hi, List.getElem_set, hij]
theorem RowB.fr {w w' : World} {g : Nat} {e : TypeId} {l : List UInt8} (h : RowB w g e l) {S : List Nat} (f : Fr S w w') (hg : g ∉ S) : RowB w' g e l := by
  obtain ⟨C, lo, hi, hb, h1⟩ := h
  exact ⟨C, lo, hi, f.blk hb hg, h1⟩
theorem RowB.drewN {w : World} {g : Nat} {e : TypeId} {l : List UInt8} (h : RowB w g e l) (n : Nat) : RowB (w.drewN n) g e l := h
theorem RowB.conv {P : Program} {w : World} {g e' c : Nat} {l : List UInt8} (h : RowB w g e' l) {src dst e : TypeId} (hs : P.underlying src = some (.slice e)) (he : P.underlying e = some (.int .u8)) (hd : P.underlying dst = some .string) :
    (convert src dst (.slice (some ⟨g, 0, none⟩) l.length c)).run P w = .ok (.string (bs l)) w :=
  conv_cells hs he hd g 0 c l fun j hj => by
    rw [Nat.zero_add, h.cell j hj]
    simp [u8s, u8, hj]
/-- '[]byte(s)'. -/
theorem conv_sb {P : Program} (w : World) (src dst e : TypeId) (s : ByteArray) (hs : P.underlying src = some .string) (hd : P.underlying dst = some (.slice e)) (he : P.underlying e = some (.int .u8)) :
    ∃ c W1, (convert src dst (.string s)).run P w = .ok (.slice (some ⟨w.heap.size, 0, none⟩) s.size c) W1 ∧ Fr [] w W1 ∧ RowB W1 w.heap.size e (tl s) ∧ W1.heap.size = w.heap.size + 1 := by
  have hsz : s.size ≤ (Lib.bytesCells w e s).size := by
    have : s.data.size = s.size := rfl
    simp [Lib.bytesCells]
  refine ⟨_, Lib.bytesWorld w e s, Lib.run_convert_string_bytes w src dst e s hs hd he, ?_, ⟨_, _, _, Lib.bytesWorld_at_new w e s, by rw [tl_len]; exact hsz, by rw [tl_len]; exact hsz, fun j hj => ?_⟩, Lib.bytesWorld_size w e s⟩
  · exact ⟨rfl, rfl, rfl, by rw [Lib.bytesWorld_size]; omega, fun k hk _ => Lib.bytesWorld_at_old w e s k hk⟩
  · have hj' : j < s.data.size := hj
    have hj2 : j < s.size := hj
    simp [Lib.bytesCells, Array.getElem?_append, hj', u8s, tl]
    rw [if_pos hj2]
    rfl
end Bpm
