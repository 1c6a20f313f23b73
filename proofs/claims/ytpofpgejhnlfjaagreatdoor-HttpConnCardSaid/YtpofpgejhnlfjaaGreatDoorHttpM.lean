/- The first examples of the law. -/
import Derived.Test.YtpofpgejhnlfjaaGreatDoorHttpL
set_option linter.unusedVariables false
set_option linter.unusedSimpArgs false
set_option maxRecDepth 100000
namespace Go.Proofs.YtpofpgejhnlfjaaGreatDoor
open Go Go.RowKit Bpm Bph

/-- Bytes written out in the text. -/
theorem byt_lit {H : RO} {k n c : Nat} {cs : Array Value} {e : TypeId} {fr : Nat × Nat} {l : List UInt8} (hk : H k = some (.cells cs e fr)) (hl : l.length = n) (hc : n ≤ c) (hn : n ≤ 9223372036854775807) (hcs : cs.toList = u8s l) : BytR H (.slice (some ⟨k, 0, none⟩) n c) l := by
  subst hl
  exact ⟨_, c, rfl, hc, hn, fun _ => ⟨k, 0, cs, e, fr, rfl, hk, fun j hj => by rw [Nat.zero_add, ← hcs, Array.getElem?_toList]⟩⟩
def getL : List UInt8 := [71, 69, 84, 32, 47, 97, 37, 50, 48, 98, 63, 120, 61, 49, 38, 121, 32, 72, 84, 84, 80, 47, 49, 46, 49, 13, 10, 13, 10]
def badL : List UInt8 := [103, 101, 116, 32, 47, 32, 72, 84, 84, 80, 47, 49, 46, 49, 13, 10]
def getR : Req := ⟨[71, 69, 84], [47, 97, 32, 98], [([120], [49]), ([121], [])], false, []⟩
theorem parse_get : parse getL = .done getR 29 := by
  have h1 : lineS getL = .got (getL.take 25) := by kernel_rfl
  have h2 : startS (getL.take 25) = some getR := by kernel_rfl
  have h3 : lineS (getL.drop 27) = .got [] := by kernel_rfl
  unfold parse
  rw [h1]
  simp only [h2]
  rw [show (getL.take 25).length + 2 = 27 from rfl, hdrs_end h3]
  rfl
theorem parse_bad : parse badL = .fault 400 := by
  have h1 : lineS badL = .got (badL.take 14) := by kernel_rfl
  have h2 : startS (badL.take 14) = none := by kernel_rfl
  unfold parse
  rw [h1]
  simp only [h2]
def getC : Array Value := #[.int .u8 71, .int .u8 69, .int .u8 84, .int .u8 32, .int .u8 47, .int .u8 97, .int .u8 37, .int .u8 50, .int .u8 48, .int .u8 98, .int .u8 63, .int .u8 120, .int .u8 61, .int .u8 49, .int .u8 38, .int .u8 121, .int .u8 32, .int .u8 72, .int .u8 84, .int .u8 84, .int .u8 80, .int .u8 47, .int .u8 49, .int .u8 46, .int .u8 49, .int .u8 13, .int .u8 10, .int .u8 13, .int .u8 10]
def badC : Array Value := #[.int .u8 103, .int .u8 101, .int .u8 116, .int .u8 32, .int .u8 47, .int .u8 32, .int .u8 72, .int .u8 84, .int .u8 84, .int .u8 80, .int .u8 47, .int .u8 49, .int .u8 46, .int .u8 49, .int .u8 13, .int .u8 10]
theorem getC_eq : getC.toList = u8s getL := by kernel_rfl
theorem badC_eq : badC.toList = u8s badL := by kernel_rfl
theorem get_ok (w : World) : Calls Tryz.prog 33 #[] w fun e w' => e = .returned (.slice (some ⟨w.heap.size, 0, none⟩) 29 29) ∧ w.alloc (.cells getC 5 (29, 30)) = w' := by
  have kc := Lib.run_convert_bytes_const (P := Tryz.prog) w 22 5 getC 29 29 Tryz.underlying22 Tryz.underlying5
  simp only [getC] at kc
  go_enter Tryz.func33, Tryz.ntmps33
  go_wp2
  go_ret
  exact ⟨rfl, rfl⟩

/-! ### a connection, as its callers see it -/
structure Cn (H : RO) (w : World) (g : Nat) (bv : Value) (buf : List UInt8) (over : Bool) : Prop where
  at_ : ConnAt w g bv over
  own : OwnR w bv 5 1 buf.length (u8s buf)
  no : H g = none
  nob : ∀ k, bv.ownBlock = some k → H k = none
  far : ∀ k, bv.ownBlock = some k → k ≠ g
theorem Cn.fr {H : RO} {w w' : World} {g : Nat} {bv : Value} {buf : List UInt8} {over : Bool} (h : Cn H w g bv buf over) {S : List Nat} (f : Fr S w w') (hg : g ∉ S) (hb : ∀ k, bv.ownBlock = some k → k ∉ S) : Cn H w' g bv buf over :=
  ⟨f.blk h.at_ hg, h.own.fr f hb, h.no, h.nob, h.far⟩
theorem Cn.ext {H H' : RO} {w : World} {g : Nat} {bv : Value} {buf : List UInt8} {over : Bool} (h : Cn H w g bv buf over) {w0 : World} (x : Ext H H' w0) (hs : w.heap.size ≤ w0.heap.size) : Cn H' w g bv buf over :=
  ⟨h.at_, h.own, x.none (Nat.lt_of_lt_of_le (blk_lt h.at_) hs) h.no, fun k hk => x.none (Nat.lt_of_lt_of_le (h.own.lt hk) hs) (h.nob k hk), h.far⟩
theorem Cn.new {H : RO} {w : World} (hG : GoodH H w) : Cn H (w.alloc (.cells #[.bool true, .slice none 0 0, .bool false] 62)) w.heap.size (.slice none 0 0) [] false :=
  ⟨blk_new w _, OwnR.nil _ _ _, hG.none_ge (Nat.le_refl _), fun k hk => (by cases hk), fun k hk => (by cases hk)⟩
theorem Cn.lt {H : RO} {w : World} {g : Nat} {bv : Value} {buf : List UInt8} {over : Bool} (h : Cn H w g bv buf over) : g < w.heap.size := blk_lt h.at_

def FdPost (H : RO) (w : World) (g : Nat) (bv : Value) (buf : List UInt8) (e : Ending) (w' : World) : Prop :=
  e = .returned (.int .i64 0) ∧ Fr (g :: bv.ownBlock.toList) w w' ∧ GoodH H w' ∧ ∃ bv', Cn H w' g bv' buf false ∧ (bv'.ownBlock = bv.ownBlock ∨ ∃ k, bv'.ownBlock = some k ∧ w.heap.size ≤ k)
theorem feed_cn (H : RO) (w : World) (hG : GoodH H w) (g : Nat) (bv b : Value) (buf l : List UInt8) (h : Cn H w g bv buf false) (hb : BytR H b l) (hl : buf.length + l.length ≤ 1048576) :
    Calls Tryz.prog 9 #[.pointer (some ⟨g, 0, none⟩), b] w (FdPost H w g bv (buf ++ l)) := by
  refine (feed_ok H w hG g bv b buf l h.at_ h.own h.far hb hl).mono ?_
  rintro e w' ⟨he, bv', h1, h2, h3, h4⟩
  refine ⟨he, h3, hG.fr h3 (fun x hx => ?_), bv', ⟨h1, h2, h.no, fun k hk => ?_, fun k hk => ?_⟩, h4⟩
  · rcases List.mem_cons.1 hx with rfl | hx
    · exact h.no
    · exact h.nob x (by simpa using hx)
  · rcases h4 with e | ⟨k', e, hk'⟩
    · exact h.nob k (by rw [← e]; exact hk)
    · rw [e] at hk; cases hk; exact hG.none_ge hk'
  · rcases h4 with e | ⟨k', e, hk'⟩
    · exact h.far k (by rw [← e]; exact hk)
    · rw [e] at hk; cases hk; have := h.lt; omega
def zeroV : Value := .agg reqZ
def NPost (H : RO) (w : World) (g : Nat) (bv : Value) (buf : List UInt8) (e : Ending) (w' : World) : Prop :=
  Fr [g] w w' ∧ match parse buf with
  | .more => e = .returned (.tuple #[zeroV, .int .i64 0, .bool false]) ∧ GoodH H w' ∧ Cn H w' g bv buf false
  | .fault st => e = .returned (.tuple #[zeroV, .int .i64 st, .bool true]) ∧ GoodH H w' ∧ Cn H w' g bv buf true
  | .done r n => ∃ v bv' H', e = .returned (.tuple #[v, .int .i64 0, .bool true]) ∧ ReqR H' v r ∧ Ext H H' w ∧ GoodH H' w' ∧ Cn H' w' g bv' (buf.drop n) r.close ∧ bv'.ownBlock = bv.ownBlock ∧ n ≤ buf.length
theorem next_cn (H : RO) (w : World) (hE : Env H) (hG : GoodH H w) (g : Nat) (bv : Value) (buf : List UInt8) (h : Cn H w g bv buf false) (hs : buf.length ≤ 2000000) :
    Calls Tryz.prog 10 #[.pointer (some ⟨g, 0, none⟩)] w (NPost H w g bv buf) := by
  refine (next_ok H w g bv buf hE hG h.no h.at_ h.own h.far hs).mono ?_
  rintro e w' ⟨hF, hx⟩
  have hb : ∀ k, bv.ownBlock = some k → k ∉ [g] := fun k hk => by simpa using h.far k hk
  have hG' : GoodH H w' := hG.fr hF (fun x hx => by simp at hx; subst hx; exact h.no)
  refine ⟨hF, ?_⟩
  cases hp : parse buf with
  | more =>
    rw [hp] at hx
    exact ⟨hx.1, hG', hx.2, h.own.fr hF hb, h.no, h.nob, h.far⟩
  | fault st =>
    rw [hp] at hx
    exact ⟨hx.2.1, hG', hx.2.2, h.own.fr hF hb, h.no, h.nob, h.far⟩
  | done r n =>
    rw [hp] at hx
    obtain ⟨q, bd, bv', H', h1, h2, h3, h4, h5, h6, h7, h8, h9⟩ := hx
    exact ⟨_, bv', H', h1, ⟨q, bd, rfl, h5, h6⟩, h3, h4, ⟨h7, h8, h3.none h.lt h.no, fun k hk => h3.none (h.own.lt (by rw [← h9]; exact hk)) (h.nob k (by rw [← h9]; exact hk)), fun k hk => h.far k (by rw [← h9]; exact hk)⟩, h9, h2⟩
theorem next_none (H : RO) (w : World) (hG : GoodH H w) (g : Nat) (bv : Value) (buf : List UInt8) (h : Cn H w g bv buf true) :
    Calls Tryz.prog 10 #[.pointer (some ⟨g, 0, none⟩)] w fun e w' => e = .returned (.tuple #[zeroV, .int .i64 0, .bool false]) ∧ Fr [] w w' := next_over w g bv h.at_
end Go.Proofs.YtpofpgejhnlfjaaGreatDoor
