/- What the library's functions do, in the words of this layer; a connection's small methods. -/
import Derived.Test.YtpofpgejhnlfjaaGreatDoorHttpD
import Derived.Shelf.Strings.SlTrimAscii
set_option linter.unusedVariables false
set_option linter.unusedSimpArgs false
set_option maxRecDepth 100000
namespace Go.Proofs.YtpofpgejhnlfjaaGreatDoor
open Go Go.RowKit Bpm Bph

theorem low_eq (l : List UInt8) : Lib.toLowerA l = low l := by
  unfold Lib.toLowerA low
  congr 1
theorem low_ok (s : ByteArray) (w : World) (hs : s.size ≤ 140737488355328) (ha : (tl s).all isLin = true ∨ (tl s).all isNam = true) :
    Calls Tryz.prog 94 #[.string s] w fun e w' => e = .returned (.string (bs (low (tl s)))) ∧ Below w.heap.size w w' := by
  have hascii : ∀ (j : Nat) (b : UInt8), s.data.toList[j]? = some b → b.toNat < 128 := by
    intro j b hb
    have hm : b ∈ tl s := List.mem_of_getElem? hb
    rcases ha with ha | ha
    · have := List.all_eq_true.1 ha b hm
      simp [isLin, isPri] at this
      omega
    · have := List.all_eq_true.1 ha b hm
      simp [isNam, isLet, isLow, isUp, isDig] at this
      omega
  refine (Tryz.strings_ToLower_ascii s w hs hascii).mono ?_
  rintro e w' ⟨rfl, hb⟩
  refine ⟨?_, hb⟩
  rw [tl_eq, low_eq]
  rfl
theorem trim_eq (l : List UInt8) : Lib.trimS l [32, 9] = trim l := by
  have h : ([32, 9] : List UInt8).contains = isBl := by
    funext c
    have h32 : (c == 32) = decide (c.toNat = 32) := by rw [Bool.eq_iff_iff]; simp [← UInt8.toNat_inj]
    have h9 : (c == 9) = decide (c.toNat = 9) := by rw [Bool.eq_iff_iff]; simp [← UInt8.toNat_inj]
    simp only [List.contains_cons, List.contains_nil, Bool.or_false, isBl, h32, h9]
  unfold Lib.trimS Lib.trimLeftS Lib.trimRightS trim trimL
  rw [h]
theorem trim_ok (s : ByteArray) (w : World) (hs : s.size ≤ 9223372036854775807) :
    Calls Tryz.prog 95 #[.string s, .string ⟨#[32, 9]⟩] w fun e w' => e = .returned (.string (bs (trim (tl s)))) ∧ Below w.heap.size w w' := by
  refine (Any.strings_Trim_laid Tryz.lays160 (by kernel_rfl) s ⟨#[32, 9]⟩ w hs (by decide) (ascii_of_all (by decide))).mono ?_
  rintro e w' ⟨rfl, hb⟩
  refine ⟨?_, hb⟩
  rw [tl_eq, show (⟨#[32, 9]⟩ : ByteArray).data.toList = [32, 9] from rfl, trim_eq]
  rfl
theorem split_ok (s : ByteArray) (w : World) (hm : Mx w) (hs : s.size < 4294967281) :
    Calls Tryz.prog 64 #[.string s, .string ⟨#[32]⟩] w fun e w' => e = .returned (.slice (some ⟨w.heap.size, 0, none⟩) (splitB 32 (tl s)).length (splitB 32 (tl s)).length) ∧ w.alloc (.cells ((splitB 32 (tl s)).map fun t => Value.string (bs t)).toArray 9) = w' := by
  obtain ⟨m, hm⟩ := hm
  refine (Tryz.strings_Split s ⟨#[32]⟩ m w hs hm (by decide)).mono ?_
  rintro e w' ⟨rfl, rfl⟩
  have h := countB_split 32 s
  rw [tl_eq] at h
  refine ⟨by rw [h.1], ?_⟩
  rw [← h.2, List.map_map]
  rfl
theorem atoi_eq (l : List UInt8) (h1 : 1 ≤ l.length) (hd : l.all isDig = true) : Lib.atoi l = some (atoiD 0 l : Int) := by
  have key : ∀ (l : List UInt8) (n : Nat), l.all isDig = true → Lib.decFrom n l = some (atoiD n l) := by
    intro l
    induction l with
    | nil => intro n _; rfl
    | cons c r ih =>
      intro n h
      simp only [List.all_cons, Bool.and_eq_true] at h
      have hc := h.1
      simp [isDig] at hc
      have hv : Lib.digitVal c = some (c.toNat - 48) := by unfold Lib.digitVal; rw [if_pos hc]
      unfold Lib.decFrom atoiD
      rw [hv, Nat.mul_comm n 10]
      exact ih _ h.2
  cases l with
  | nil => simp at h1
  | cons c r =>
    have hc := hd
    simp only [List.all_cons, Bool.and_eq_true] at hc
    have hc := hc.1
    simp [isDig] at hc
    have h45 : (c == 45) = false := by rw [beq_eq_false_iff_ne]; rintro rfl; simp at hc
    have h43 : (c == 43) = false := by rw [beq_eq_false_iff_ne]; rintro rfl; simp at hc
    have hu : Lib.atoi (c :: r) = if (c == 45) = true then (Lib.decNat r).map (fun (v : Nat) => - (v : Int)) else if (c == 43) = true then (Lib.decNat r).map (fun (v : Nat) => (v : Int)) else (Lib.decNat (c :: r)).map (fun (v : Nat) => (v : Int)) := by
      unfold Lib.atoi
      rfl
    rw [hu, h45, h43]
    simp only [Bool.false_eq_true, if_false]
    unfold Lib.decNat
    rw [if_neg (by simp), key _ _ hd]
    rfl
theorem atoi_ok (s : ByteArray) (w : World) (h1 : 1 ≤ s.size) (h9 : s.size ≤ 9) (hd : (tl s).all isDig = true) :
    Calls Tryz.prog 79 #[.string s] w fun e w' => e = .returned (.tuple #[.int .i64 (atoiD 0 (tl s)), .nilIface]) ∧ Below w.heap.size w w' := by
  refine (Tryz.strconv_Atoi s _ (by omega) (atoi_eq (tl s) (by rw [tl_len]; omega) hd) w).mono ?_
  rintro e w' ⟨rfl, t, rfl⟩
  exact ⟨rfl, Lib.bytesWorld_below w _ t⟩

def ConnAt (w : World) (g : Nat) (bv : Value) (over : Bool) : Prop := w.heap[g]? = some (.cells #[.bool true, bv, .bool over] 62 (0, 0))
theorem none_ok (w : World) (g : Nat) (bv : Value) (over : Bool) (h : ConnAt w g bv over) :
    Calls Tryz.prog 34 #[.pointer (some ⟨g, 0, none⟩)] w fun e w' => e = .returned (.bool false) ∧ w = w' := by
  have c0 := blk_cell h 0
  simp at c0
  go_enter Tryz.func34, Tryz.ntmps34
  go_wp2
  go_ret
  exact ⟨rfl, rfl⟩
theorem new_ok (w : World) : Calls Tryz.prog 8 #[] w fun e w' => e = .returned (.pointer (some ⟨w.heap.size, 0, none⟩)) ∧ w.alloc (.cells #[.bool true, .slice none 0 0, .bool false] 62) = w' := by
  go_enter Tryz.func8, Tryz.ntmps8
  go_wp2
  go_ret
  exact ⟨rfl, rfl⟩
theorem over_ok (w : World) (g : Nat) (bv : Value) (over : Bool) (h : ConnAt w g bv over) :
    Calls Tryz.prog 11 #[.pointer (some ⟨g, 0, none⟩)] w fun e w' => e = .returned (.bool over) ∧ w = w' := by
  have c2 := blk_cell h 2
  simp at c2
  go_enter Tryz.func11, Tryz.ntmps11
  go_wp2_with (go_at_call 34; refine (none_ok _ _ _ _ h).mono ?_; rintro e w' ⟨rfl, rfl⟩)
  go_ret
  exact ⟨rfl, rfl⟩
theorem feed_over (w : World) (g : Nat) (bv b : Value) (h : ConnAt w g bv true) :
    Calls Tryz.prog 9 #[.pointer (some ⟨g, 0, none⟩), b] w fun e w' => e = .returned (.int .i64 10) ∧ w = w' := by
  have c2 := blk_cell h 2
  simp at c2
  go_enter Tryz.func9, Tryz.ntmps9
  go_wp2_with (go_at_call 34; refine (none_ok _ _ _ _ h).mono ?_; rintro e w' ⟨rfl, rfl⟩)
  go_ret
  exact ⟨rfl, rfl⟩
def FeedPost (w : World) (g : Nat) (bv : Value) (buf : List UInt8) (e : Ending) (w' : World) : Prop :=
  e = .returned (.int .i64 0) ∧ ∃ bv', ConnAt w' g bv' false ∧ OwnR w' bv' 5 1 buf.length (u8s buf) ∧ Fr (g :: bv.ownBlock.toList) w w' ∧ (bv'.ownBlock = bv.ownBlock ∨ ∃ k, bv'.ownBlock = some k ∧ w.heap.size ≤ k)
theorem feed_ok (H : RO) (w : World) (hG : GoodH H w) (g : Nat) (bv b : Value) (buf l : List UInt8) (h : ConnAt w g bv false) (ho : OwnR w bv 5 1 buf.length (u8s buf)) (hne : ∀ k, bv.ownBlock = some k → k ≠ g) (hb : BytR H b l) (hl : buf.length + l.length ≤ 1048576) :
    Calls Tryz.prog 9 #[.pointer (some ⟨g, 0, none⟩), b] w (FeedPost w g bv (buf ++ l)) := by
  have c2 := blk_cell h 2
  have c1 := blk_cell h 1
  have f1 := blk_free h 1
  have hs := RowR.src (P := Tryz.prog) (tx := 22) (e' := 5) (sz := 1) (by kernel_rfl) hb hG (by simp [u8s]) (by omega) (u8s_one l)
  obtain ⟨A, c, rfl, _, _, _⟩ := hb
  obtain ⟨A2, c2', rfl⟩ := ho.slice
  simp at c2 c1
  have hlong : ¬ (1048576 - (buf.length : Int) < l.length) := by omega
  go_enter Tryz.func9, Tryz.ntmps9
  go_wp2_with (first | (go_at_call 34; refine (none_ok _ _ _ _ h).mono ?_; rintro e w' ⟨rfl, rfl⟩) | (at_builtin; refine wp_app rfl _ _ _ _ rfl elU8 ho rfl hs rfl (by omega) (by omega) ?_; intro v' w1 o1 g1 at1; obtain ⟨A3, c3, rfl⟩ := OwnR.slice o1; have h1 := (Fr.of_grown g1).blk h (by intro hx; exact hne g (by simpa using hx) rfl); have d1 := blk_cell h1 1; have e1 := blk_free h1 1; simp at d1; have H1 := hid h1; have G1 := hid g1; have O1 := hid o1; have A1 := hid at1; clear h1 g1 o1 at1))
  go_ret
  refine ⟨rfl, _, by unfold ConnAt; simpa using blk_set H1.out 1 _, ?_, ?_, A1.out⟩
  · rw [u8s_append, List.length_append]
    exact O1.out.fr ((Fr.refl [g] w1).setCell (.inl (by simp)) _) (fun k hk => by
      rcases A1.out with e | ⟨k', e, hge⟩
      · rw [e] at hk; have := hne k hk; simpa using this
      · rw [e] at hk; cases hk; have := blk_lt h; simp; omega)
  · exact Fr.then ((Fr.of_grown G1.out).mono (fun x hx => .inl (by simp at hx ⊢; exact .inr hx))) ((Fr.refl [g] w1).setCell (.inl (by simp)) _) (by simp)

/-! ### the reader of a request -/
/-- Bytes that can be read in w, whoever owns them. -/
def BytW (w : World) (v : Value) (l : List UInt8) : Prop := BytR (fun k => w.heap[k]?) v l
theorem BytW.good (w : World) : GoodH (fun k => w.heap[k]?) w := fun _ _ h => h
theorem BytW.fr {w w' : World} {v : Value} {l : List UInt8} (h : BytW w v l) {S : List Nat} (f : Fr S w w') (hS : ∀ g, v.ownBlock = some g → g ∉ S) : BytW w' v l := by
  obtain ⟨A, c, rfl, hc, hn, h⟩ := h
  refine ⟨A, c, rfl, hc, hn, fun hne => ?_⟩
  obtain ⟨b, o, cur, e, fr, rfl, hb, h⟩ := h hne
  exact ⟨b, o, cur, e, fr, rfl, f.blk hb (hS b rfl), h⟩
theorem BytW.of_own {w : World} {v : Value} {e : TypeId} {l : List UInt8} (h : OwnR w v e 1 l.length (u8s l)) : BytW w v l := by
  obtain ⟨h1, h2, h3⟩ := h
  rcases h3 with ⟨rfl, h0⟩ | ⟨g, o, c, cur, rfl, hg, hc, hs, hj⟩
  · obtain rfl : l = [] := List.eq_nil_of_length_eq_zero h0
    exact ⟨none, 0, rfl, Nat.le_refl _, by simp, fun h => absurd rfl h⟩
  · exact ⟨_, c, rfl, hc, h2, fun _ => ⟨g, o, cur, e, (0, 0), rfl, hg, fun j hj' => hj j (by simpa [u8s] using hj')⟩⟩
theorem BytW.of_row {H : RO} {w : World} (hG : GoodH H w) {v : Value} {l : List UInt8} (h : BytR H v l) : BytW w v l := by
  obtain ⟨A, c, rfl, hc, hn, h⟩ := h
  refine ⟨A, c, rfl, hc, hn, fun hne => ?_⟩
  obtain ⟨b, o, cur, e, fr, rfl, hb, h⟩ := h hne
  exact ⟨b, o, cur, e, fr, rfl, hG _ _ hb, h⟩
theorem BytW.drop {w : World} {A : Option Addr} {n c : Nat} {l : List UInt8} (h : BytW w (.slice A n c) l) (hl : l.length = n) (k : Nat) (hk : k ≤ n) : BytW w (.slice (if c = k then A else A.map (·.add (k * 1))) (n - k) (c - k)) (l.drop k) := by
  subst hl
  have := RowR.from (sz := 1) h (by simp [u8s]) k hk
  unfold BytW BytR
  rw [List.length_drop, show u8s (l.drop k) = (u8s l).drop (k * 1) by simp [u8s, List.map_drop]]
  exact this
end Go.Proofs.YtpofpgejhnlfjaaGreatDoor
