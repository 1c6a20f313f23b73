/- Lemmas on memory that every proof of this set uses: bytes and strings, blocks that are only read (a 'heaplet' H), rows that a call owns and appends to, what a call leaves alone. -/
import Derived.WalkKit
import Derived.WalkLawsBesides
import Derived.WalkSpells
import Derived.Outline
import Derived.Below
import Derived.OneCell
import Derived.Deep.AppendSrc
import Derived.Deep.Upon
import Derived.Deep.AppendLies
import Derived.KernelRfl
import Derived.Laws.Strings
import Derived.Lib.Hide
import Derived.Laws.BytesArg
import Derived.Lib.ConvBytes
set_option linter.unusedVariables false
set_option linter.unusedSimpArgs false
namespace Bpm
open Go Go.RowKit

theorem hid {p : Prop} (h : p) : Hid p := h

/-! ### bytes and strings -/
def bs (l : List UInt8) : ByteArray := ⟨l.toArray⟩
def tl (s : ByteArray) : List UInt8 := s.data.toList
theorem tl_bs (l : List UInt8) : tl (bs l) = l := rfl
theorem bs_tl (s : ByteArray) : bs (tl s) = s := rfl
theorem size_bs (l : List UInt8) : (bs l).size = l.length := rfl
theorem tl_len (s : ByteArray) : (tl s).length = s.size := rfl
theorem tl_eq (s : ByteArray) : s.data.toList = tl s := rfl
theorem tl_get (s : ByteArray) (k : Nat) (h : k < s.size) : (tl s)[k]'(by rw [tl_len]; exact h) = s[k] := rfl
theorem tl_get? (s : ByteArray) (k : Nat) (h : k < s.size) : (tl s)[k]? = some s[k] := by rw [List.getElem?_eq_getElem (by rw [tl_len]; exact h), tl_get s k h]
theorem tl_extract (s : ByteArray) (a b : Nat) : tl (s.extract a b) = ((tl s).drop a).take (b - a) := by
  unfold tl
  rw [ByteArray.data_extract, Array.toList_extract, List.extract_eq_take_drop]
theorem tl_drop (s : ByteArray) (a : Nat) : tl (s.extract a s.size) = (tl s).drop a := by
  rw [tl_extract, List.take_of_length_le]
  rw [List.length_drop, tl_len]; exact Nat.le_refl _
theorem tl_take (s : ByteArray) (b : Nat) : tl (s.extract 0 b) = (tl s).take b := by rw [tl_extract]; simp
theorem tl_inj {s t : ByteArray} (h : tl s = tl t) : s = t := by rw [← bs_tl s, ← bs_tl t, h]
theorem bs_append (a b : List UInt8) : bs a ++ bs b = bs (a ++ b) := by
  apply tl_inj
  simp [tl, bs]
theorem tl_append (s t : ByteArray) : tl (s ++ t) = tl s ++ tl t := by simp [tl]
theorem take_succ_get (s : ByteArray) (k : Nat) (h : k < s.size) : (tl s).take (k + 1) = (tl s).take k ++ [s[k]] := by
  rw [List.take_succ_eq_append_getElem (by rw [tl_len]; exact h), tl_get s k h]
theorem drop_get (s : ByteArray) (k : Nat) (h : k < s.size) : (tl s).drop k = s[k] :: (tl s).drop (k + 1) := by
  rw [List.drop_eq_getElem_cons (by rw [tl_len]; exact h), tl_get s k h]
theorem drop_end (s : ByteArray) (k : Nat) (h : s.size ≤ k) : (tl s).drop k = [] := List.drop_of_length_le (by rw [tl_len]; exact h)
def u8 (c : UInt8) : Value := .int .u8 c.toNat
def u8s (l : List UInt8) : List Value := l.map u8
theorem u8s_len (l : List UInt8) : (u8s l).length = l.length := by simp [u8s]
theorem u8s_append (a b : List UInt8) : u8s (a ++ b) = u8s a ++ u8s b := by simp [u8s]
theorem byteCells_u8s (s : ByteArray) : byteCells s = u8s (tl s) := rfl
theorem u8s_one (l : List UInt8) : ∀ u ∈ u8s l, u.oneCell' = true := by
  intro u hu
  obtain ⟨_, _, rfl⟩ := List.mem_map.1 hu
  rfl

theorem beq_u8 (c : UInt8) (n : Int) (h0 : 0 ≤ n) (h1 : n < 256) (h : c ≠ UInt8.ofNat n.toNat) : ((c.toNat : Int) == n) = false := by
  rw [beq_eq_false_iff_ne]
  intro e
  refine h (UInt8.toNat_inj.1 ?_)
  have : (UInt8.ofNat n.toNat).toNat = n.toNat % 256 := rfl
  omega
theorem beq_u8' (c : UInt8) (n : Int) (h0 : 0 ≤ n) (h1 : n < 256) (h : c = UInt8.ofNat n.toNat) : ((c.toNat : Int) == n) = true := by
  subst h
  have : (UInt8.ofNat n.toNat).toNat = n.toNat % 256 := rfl
  rw [beq_iff_eq]; omega

/-! ### the frame of a call: which old blocks it may turn -/
structure Fr (S : List Nat) (w w' : World) : Prop where
  os : w'.os = w.os
  tape : w'.tape = w.tape
  output : w'.output = w.output
  size : w.heap.size ≤ w'.heap.size
  same : ∀ k, k < w.heap.size → k ∉ S → w'.heap[k]? = w.heap[k]?
theorem Fr.refl (S : List Nat) (w : World) : Fr S w w := ⟨rfl, rfl, rfl, Nat.le_refl _, fun _ _ _ => rfl⟩
theorem Fr.trans {S : List Nat} {a b c : World} (h : Fr S a b) (k : Fr S b c) : Fr S a c :=
  ⟨k.os.trans h.os, k.tape.trans h.tape, k.output.trans h.output, Nat.le_trans h.size k.size, fun i hi hn => (k.same i (Nat.lt_of_lt_of_le hi h.size) hn).trans (h.same i hi hn)⟩
/-- What the second part turns may also be what the first part made. -/
theorem Fr.then {S T : List Nat} {a b c : World} (h : Fr S a b) (k : Fr T b c) (hT : ∀ x, x ∈ T → x ∈ S ∨ a.heap.size ≤ x) : Fr S a c :=
  ⟨k.os.trans h.os, k.tape.trans h.tape, k.output.trans h.output, Nat.le_trans h.size k.size, fun i hi hn =>
    (k.same i (Nat.lt_of_lt_of_le hi h.size) (fun hx => (hT i hx).elim hn (fun h2 => by omega))).trans (h.same i hi hn)⟩
theorem Fr.mono {S T : List Nat} {a b : World} (h : Fr S a b) (hS : ∀ x, x ∈ S → x ∈ T ∨ a.heap.size ≤ x) : Fr T a b :=
  ⟨h.os, h.tape, h.output, h.size, fun k hk hn => h.same k hk (fun hx => (hS k hx).elim hn (fun h2 => by omega))⟩
theorem Fr.below {w w' : World} (h : Fr [] w w') : Below w.heap.size w w' := ⟨h.os, h.tape, h.output, h.size, fun k hk => h.same k hk (by simp)⟩
theorem Fr.of_below {w w' : World} (h : Below w.heap.size w w') (S : List Nat) : Fr S w w' := ⟨h.os, h.tape, h.output, h.size, fun k hk _ => h.block k hk⟩
theorem Fr.of_grown {w w' : World} {row : Option Nat} (h : w.grownBy w' row) : Fr row.toList w w' := ⟨h.os, h.tape, h.output, h.size, fun k hk hn => h.block k hk (fun e => hn (by rw [← e]; simp))⟩
theorem Fr.alloc {S : List Nat} {a w : World} (h : Fr S a w) (o : Obj) : Fr S a (w.alloc o) :=
  h.trans ⟨rfl, rfl, rfl, by simp, fun k hk _ => Below.heap_alloc w o k hk⟩
theorem Fr.drew {S : List Nat} {a w : World} (h : Fr S a w) : Fr S a w.drew := ⟨h.os, h.tape, h.output, h.size, h.same⟩
theorem Fr.drewN {S : List Nat} {a w : World} (h : Fr S a w) (n : Nat) : Fr S a (w.drewN n) := ⟨h.os, h.tape, h.output, h.size, h.same⟩
theorem Fr.setCell {S : List Nat} {a w : World} (h : Fr S a w) {p : Addr} (hp : p.block ∈ S ∨ a.heap.size ≤ p.block) (u : Value) : Fr S a (w.setCell p u) :=
  h.then (T := [p.block]) ⟨rfl, rfl, rfl, by simp, fun k hk hn => heap_setCell_other w p k u (by simpa using hn)⟩ (by simpa using hp)
theorem Fr.blk {S : List Nat} {w w' : World} (h : Fr S w w') {k : Nat} {o : Obj} (hk : w.heap[k]? = some o) (hn : k ∉ S) : w'.heap[k]? = some o :=
  (h.same k (Array.getElem?_eq_some_iff.1 hk).1 hn).trans hk
theorem Fr.cell {S : List Nat} {w w' : World} (h : Fr S w w') {p : Addr} {v : Value} (hk : w.cell? p = some v) (hn : p.block ∉ S) : w'.cell? p = some v :=
  (World.cell?_of_block (h.same p.block (World.block_lt_of_cell? w p hk) hn)).trans hk

/-- A block's cells. -/
theorem blk_cell {w : World} {g : Nat} {cs : Array Value} {e : TypeId} {fr : Nat × Nat} (h : w.heap[g]? = some (.cells cs e fr)) (j : Nat) : w.cell? ⟨g, j, none⟩ = cs[j]? := cell_of_row w g j cs e fr h
theorem blk_lt {w : World} {g : Nat} {o : Obj} (h : w.heap[g]? = some o) : g < w.heap.size := (Array.getElem?_eq_some_iff.1 h).1
theorem blk_free {w : World} {g : Nat} {cs : Array Value} {e : TypeId} (h : w.heap[g]? = some (.cells cs e (0, 0))) (j : Nat) : w.frozen? ⟨g, j, none⟩ = false := frozen_of_row w g j cs e h
theorem blk_set {w : World} {g : Nat} {cs : Array Value} {e : TypeId} {fr : Nat × Nat} (h : w.heap[g]? = some (.cells cs e fr)) (j : Nat) (v : Value) : (w.setCell ⟨g, j, none⟩ v).heap[g]? = some (.cells (cs.setIfInBounds j v) e fr) := by
  simp [World.setCell, Array.getElem?_modify, h]
theorem blk_set_far {w : World} {g : Nat} {o : Obj} (h : w.heap[g]? = some o) {p : Addr} (hne : g ≠ p.block) (v : Value) : (w.setCell p v).heap[g]? = some o := (heap_setCell_other w p g v hne).trans h
theorem blk_alloc {w : World} {g : Nat} {o : Obj} (h : w.heap[g]? = some o) (o2 : Obj) : (w.alloc o2).heap[g]? = some o := (Below.heap_alloc w o2 g (blk_lt h)).trans h
theorem blk_new (w : World) (o : Obj) : (w.alloc o).heap[w.heap.size]? = some o := heap_alloc_new w o
theorem add_off (b o j : Nat) : (⟨b, o, none⟩ : Addr).add j = ⟨b, o + j, none⟩ := by unfold Addr.add; split <;> simp_all

/-! ### what is only read: a heaplet H that never turns -/
abbrev RO := Nat → Option Obj
def GoodH (H : RO) (w : World) : Prop := ∀ k o, H k = some o → w.heap[k]? = some o
theorem GoodH.lt {H : RO} {w : World} (h : GoodH H w) {k : Nat} {o : Obj} (hk : H k = some o) : k < w.heap.size := blk_lt (h k o hk)
theorem GoodH.none_ge {H : RO} {w : World} (h : GoodH H w) {k : Nat} (hk : w.heap.size ≤ k) : H k = none := by
  cases e : H k with
  | none => rfl
  | some o => have := h.lt e; omega
/-- What is read stays: blocks that may be turned lie outside H. -/
theorem GoodH.fr {H : RO} {w w' : World} (h : GoodH H w) {S : List Nat} (f : Fr S w w') (hS : ∀ x, x ∈ S → H x = none) : GoodH H w' := fun k o hk =>
  f.blk (h k o hk) (fun hx => by rw [hS k hx] at hk; cases hk)
/-- H' says more than H, of blocks that are new. -/
structure Ext (H H' : RO) (w : World) : Prop where
  mono : ∀ k o, H k = some o → H' k = some o
  old : ∀ k, k < w.heap.size → H' k = H k
theorem Ext.refl (H : RO) (w : World) : Ext H H w := ⟨fun _ _ h => h, fun _ _ => rfl⟩
theorem Ext.trans {H H' H'' : RO} {w w' : World} (h : Ext H H' w) (k : Ext H' H'' w') (hs : w.heap.size ≤ w'.heap.size) : Ext H H'' w :=
  ⟨fun i o hi => k.mono i o (h.mono i o hi), fun i hi => (k.old i (by omega)).trans (h.old i hi)⟩
theorem Ext.none {H H' : RO} {w : World} (h : Ext H H' w) {k : Nat} (hk : k < w.heap.size) (hn : H k = Option.none) : H' k = Option.none := (h.old k hk).trans hn
/-- Block k, as it lies, is read from now on. -/
def RO.add (H : RO) (k : Nat) (o : Obj) : RO := fun i => if i = k then some o else H i
theorem GoodH.add {H : RO} {w : World} (h : GoodH H w) {k : Nat} {o : Obj} (hk : w.heap[k]? = some o) : GoodH (H.add k o) w := fun i p hi => by
  unfold RO.add at hi
  split at hi
  · rename_i e; subst e; cases hi; exact hk
  · exact h i p hi
theorem Ext.add (H : RO) (w : World) {k : Nat} (hk : w.heap.size ≤ k) (o : Obj) (hn : H k = Option.none) : Ext H (H.add k o) w :=
  ⟨fun i p hi => by unfold RO.add; split; · rename_i e; subst e; rw [hn] at hi; cases hi
                    · exact hi, fun i hi => by unfold RO.add; rw [if_neg (by omega)]⟩
theorem RO.add_at (H : RO) (k : Nat) (o : Obj) : H.add k o k = some o := by simp [RO.add]

/-! ### a row of cells that is read: a slice of n elements whose cells are cs -/
def RowR (H : RO) (v : Value) (n : Nat) (cs : List Value) : Prop :=
  ∃ A c, v = .slice A n c ∧ n ≤ c ∧ n ≤ 9223372036854775807 ∧ (cs ≠ [] → ∃ b o cur e fr, A = some ⟨b, o, none⟩ ∧ H b = some (.cells cur e fr) ∧ ∀ j, j < cs.length → cur[o + j]? = cs[j]?)
theorem RowR.ext {H H' : RO} {w : World} {v : Value} {n : Nat} {cs : List Value} (h : RowR H v n cs) (x : Ext H H' w) : RowR H' v n cs := by
  obtain ⟨A, c, hv, hc, hn, h⟩ := h
  refine ⟨A, c, hv, hc, hn, fun hne => ?_⟩
  obtain ⟨b, o, cur, e, fr, hA, hb, h⟩ := h hne
  exact ⟨b, o, cur, e, fr, hA, x.mono _ _ hb, h⟩
theorem RowR.nil (H : RO) : RowR H (.slice none 0 0) 0 [] := ⟨none, 0, rfl, Nat.le_refl _, by omega, fun h => absurd rfl h⟩
def BytR (H : RO) (v : Value) (l : List UInt8) : Prop := RowR H v l.length (u8s l)
theorem BytR.ext {H H' : RO} {w : World} {v : Value} {l : List UInt8} (h : BytR H v l) (x : Ext H H' w) : BytR H' v l := RowR.ext h x

/-! ### a row that the call owns, at whatever place in its block; with spare room behind it -/
def OwnR (w : World) (v : Value) (e : TypeId) (sz n : Nat) (cs : List Value) : Prop :=
  cs.length = n * sz ∧ n ≤ 9223372036854775807 ∧
  ((v = .slice none 0 0 ∧ n = 0) ∨
   ∃ g o c cur, v = .slice (some ⟨g, o, none⟩) n c ∧ w.heap[g]? = some (.cells cur e (0, 0)) ∧ n ≤ c ∧ (0 < c → o + c * sz ≤ cur.size) ∧ ∀ j, j < n * sz → cur[o + j]? = cs[j]?)
theorem OwnR.nil (w : World) (e : TypeId) (sz : Nat) : OwnR w (.slice none 0 0) e sz 0 [] := ⟨by simp, by omega, .inl ⟨rfl, rfl⟩⟩
theorem OwnR.fr {w w' : World} {v : Value} {e : TypeId} {sz n : Nat} {cs : List Value} (h : OwnR w v e sz n cs) {S : List Nat} (f : Fr S w w') (hS : ∀ g, v.ownBlock = some g → g ∉ S) : OwnR w' v e sz n cs := by
  obtain ⟨h1, h2, h3⟩ := h
  refine ⟨h1, h2, ?_⟩
  rcases h3 with h3 | ⟨g, o, c, cur, rfl, hg, r⟩
  · exact .inl h3
  · exact .inr ⟨g, o, c, cur, rfl, f.blk hg (hS g rfl), r⟩
theorem OwnR.drewN {w : World} {v : Value} {e : TypeId} {sz n : Nat} {cs : List Value} (h : OwnR w v e sz n cs) (m : Nat) : OwnR (w.drewN m) v e sz n cs := h
theorem OwnR.slice {w : World} {v : Value} {e : TypeId} {sz n : Nat} {cs : List Value} (h : OwnR w v e sz n cs) : ∃ A c, v = .slice A n c := by
  rcases h.2.2 with ⟨rfl, rfl⟩ | ⟨g, o, c, cur, rfl, _⟩
  · exact ⟨none, 0, rfl⟩
  · exact ⟨_, c, rfl⟩
theorem OwnR.lt {w : World} {v : Value} {e : TypeId} {sz n : Nat} {cs : List Value} (h : OwnR w v e sz n cs) {g : Nat} (hg : v.ownBlock = some g) : g < w.heap.size := by
  rcases h.2.2 with ⟨rfl, rfl⟩ | ⟨g', o, c, cur, rfl, hb, _⟩
  · cases hg
  · have : g' = g := by simpa [Value.ownBlock] using hg
    subst this
    exact blk_lt hb
/-- An owned row, its block now read alone. -/
theorem OwnR.read {w : World} {v : Value} {e : TypeId} {sz n : Nat} {cs : List Value} (h : OwnR w v e sz n cs) {H : RO} (hG : GoodH H w) (hn : ∀ g, v.ownBlock = some g → H g = Option.none) {w0 : World} (hw : ∀ g, v.ownBlock = some g → w0.heap.size ≤ g) :
    ∃ H', GoodH H' w ∧ Ext H H' w0 ∧ RowR H' v n cs := by
  obtain ⟨h1, h2, h3⟩ := h
  rcases h3 with ⟨rfl, rfl⟩ | ⟨g, o, c, cur, rfl, hg, hc, hs, hj⟩
  · refine ⟨H, hG, Ext.refl _ _, none, 0, rfl, Nat.le_refl _, h2, fun hne => ?_⟩
    exact absurd (List.eq_nil_of_length_eq_zero (by simpa using h1)) hne
  · exact ⟨H.add g _, hG.add hg, Ext.add H w0 (hw g rfl) _ (hn g rfl), _, c, rfl, hc, h2, fun _ => ⟨g, o, cur, e, (0, 0), rfl, RO.add_at _ _ _, fun j hj' => hj j (by omega)⟩⟩

/-! ### append -/
structure ElemT (P : Program) (t e : TypeId) (sz by_ : Nat) (z : Value) : Prop where
  und : P.underlying t = some (.slice e)
  info : (P.info? e).map (fun i => (i.zero, i.size, i.bytes)) = some (some z, sz, by_)
  zs : z.cells.size = sz
  pos : 0 < sz

theorem setCells_block (b : Nat) : ∀ (vs : List Value) (o : Nat) (w : World) (cur : Array Value) (e : TypeId) (fr : Nat × Nat), w.heap[b]? = some (.cells cur e fr) → o + vs.length ≤ cur.size →
    ∃ cur', (w.setCells b o vs).heap[b]? = some (.cells cur' e fr) ∧ cur'.size = cur.size ∧ (∀ j, j < vs.length → cur'[o + j]? = vs[j]?) ∧ (∀ j, j < o → cur'[j]? = cur[j]?)
  | [], o, w, cur, e, fr, hb, _ => ⟨cur, hb, rfl, fun j hj => absurd hj (by simp), fun _ _ => rfl⟩
  | v :: vs, o, w, cur, e, fr, hb, hle => by
    simp only [List.length_cons] at hle
    have hb1 := blk_set hb o v
    obtain ⟨cur', h1, h2, h3, h4⟩ := setCells_block b vs (o + 1) (w.setCell ⟨b, o, none⟩ v) (cur.setIfInBounds o v) e fr hb1 (by simp; omega)
    refine ⟨cur', by simpa [World.setCells] using h1, by simpa using h2, fun j hj => ?_, fun j hj => ?_⟩
    · cases j with
      | zero =>
        rw [Nat.add_zero, h4 o (by omega), Array.getElem?_setIfInBounds]
        simp; omega
      | succ j =>
        have := h3 j (by simpa using hj)
        rw [show o + (j + 1) = o + 1 + j from by omega, this]
        simp
    · rw [h4 j (by omega), Array.getElem?_setIfInBounds, if_neg (by omega)]

theorem tape_setCells (b : Nat) : ∀ (vs : List Value) (o : Nat) (w : World), (w.setCells b o vs).tape = w.tape ∧ (w.setCells b o vs).heap.size = w.heap.size
  | [], _, _ => ⟨rfl, rfl⟩
  | v :: vs, o, w => by
    have := tape_setCells b vs (o + 1) (w.setCell ⟨b, o, none⟩ v)
    exact ⟨by simpa [World.setCells] using this.1, by simpa [World.setCells] using this.2⟩

theorem grown_setCells {w : World} (b o : Nat) (vs : List Value) : w.grownBy (w.setCells b o vs) (some b) :=
  ⟨World.os_setCells w b o vs, (tape_setCells b vs o w).1, World.output_setCells w b o vs, by rw [(tape_setCells b vs o w).2]; exact Nat.le_refl _, fun k hk hne => World.heap_setCells_other w b o vs hk (fun e => hne (by rw [e]))⟩

theorem firstCells_own {P : Program} {w : World} {v : Value} {e : TypeId} {sz n : Nat} {cs : List Value} (h : OwnR w v e sz n cs) : (Builtin.firstCells sz n v).run P w.drew = .ok cs.toArray w.drew := by
  obtain ⟨h1, h2, h3⟩ := h
  rcases h3 with ⟨rfl, rfl⟩ | ⟨g, o, c, cur, rfl, hg, hc, hs, hj⟩
  · obtain rfl : cs = [] := List.eq_nil_of_length_eq_zero (by simpa using h1)
    exact run_firstCells_none w.drew sz 0 0 0
  · refine run_firstCells_some w.drew sz n _ n c cs h1 (fun j u hu => ?_)
    rw [add_off, World.cell?_drew, blk_cell hg, hj j (by have := (List.getElem?_eq_some_iff.1 hu).1; omega)]
    exact hu

theorem app_run {P : Program} {w : World} (t tx ty e : TypeId) (sz by_ : Nat) (z : Value) (hT : ElemT P t e sz by_ z) (v : Value) (n : Nat) (cs : List Value) (hO : OwnR w v e sz n cs)
    (x : Value) (m : Nat) (news : List Value) (hs : Src P sz tx x m news w) (hb : (n + m) * by_ ≤ 140737488355328) (hl : n + m ≤ 9223372036854775807) :
    ∃ v' w', (Builtin.append_ #[t, tx] ty #[v, x]).run P w = .ok v' w' ∧ OwnR w' v' e sz (n + m) (cs ++ news) ∧ w.grownBy w' v.ownBlock ∧
      (v'.ownBlock = v.ownBlock ∨ ∃ g, v'.ownBlock = some g ∧ w.heap.size ≤ g) := by
  obtain ⟨i, hi, hzz⟩ := Option.map_eq_some_iff.1 hT.info
  simp only [Prod.mk.injEq] at hzz
  obtain ⟨hz0, hz1, hz2⟩ := hzz
  subst hz1 hz2
  have hlen : (cs ++ news).length = (n + m) * i.size := by rw [List.length_append, hO.1, hs.newsLen, Nat.add_mul]
  -- the arm that grows
  have grow : ∀ (A : Option Addr) (c : Nat), v = .slice A n c → c < n + m →
      ∃ v' w', (Builtin.append_ #[t, tx] ty #[v, x]).run P w = .ok v' w' ∧ OwnR w' v' e i.size (n + m) (cs ++ news) ∧ w.grownBy w' v.ownBlock ∧
      (v'.ownBlock = v.ownBlock ∨ ∃ g, v'.ownBlock = some g ∧ w.heap.size ≤ g) := by
    intro A c hv hc
    have hf := firstCells_own (P := P) hO
    rw [hv] at hf
    have hr := run_append_grow_src (P := P) w t tx ty e i z hT.und hi hz0 A n c cs hf x m news hs hc (by omega) (growslice_fits hc hb)
    refine ⟨_, _, by rw [hv]; exact hr, ⟨hlen, hl, .inr ⟨w.heap.size, 0, _, _, rfl, heap_alloc_new w.drew _, grownCap_ge w (n + m) c e, fun _ => ?_, fun j hj => ?_⟩⟩, ⟨rfl, rfl, rfl, by simp, fun k hk _ => Below.heap_alloc w.drew _ k hk⟩, .inr ⟨_, rfl, Nat.le_refl _⟩⟩
    · have hge := grownCap_ge w (n + m) c e
      simp only [Array.size_append, List.size_toArray, size_zeroCells, hT.zs, hlen, Nat.zero_add, ← Nat.add_mul]
      rw [show n + m + (grownCap w (n + m) c e - (n + m)) = grownCap w (n + m) c e from by omega]
      exact Nat.le_refl _
    · rw [Nat.zero_add, Array.getElem?_append_left (by simp only [List.size_toArray]; omega)]
      simp
  rcases hO.2.2 with ⟨hv, hn⟩ | ⟨g, o, c, cur, hv, hg, hc, hsz, hj⟩
  · by_cases hm : m = 0
    · subst hm hn
      obtain rfl : news = [] := List.eq_nil_of_length_eq_zero (by simpa using hs.newsLen)
      have hr := run_append_nothing (P := P) w t tx ty e i hT.und hi none 0 0 (Nat.le_refl _) x hs
      refine ⟨v, w, by rw [hv]; exact hr, by simpa using hO, ⟨rfl, rfl, rfl, Nat.le_refl _, fun _ _ _ => rfl⟩, .inl rfl⟩
    · subst hn
      exact grow none 0 (by rw [hv]) (by omega)
  · by_cases hroom : n + m ≤ c
    · by_cases hm : m = 0
      · subst hm
        obtain rfl : news = [] := List.eq_nil_of_length_eq_zero (by simpa using hs.newsLen)
        have hr := run_append_nothing (P := P) w t tx ty e i hT.und hi (some ⟨g, o, none⟩) n c hc x hs
        exact ⟨v, w, by rw [hv]; exact hr, by simpa using hO, ⟨rfl, rfl, rfl, Nat.le_refl _, fun _ _ _ => rfl⟩, .inl rfl⟩
      · have hsz' := hsz (by omega)
        have hmul : (n + m) * i.size ≤ c * i.size := Nat.mul_le_mul_right _ hroom
        have hnl := hs.newsLen
        have hfit : o + n * i.size + news.length ≤ cur.size := by rw [hnl]; rw [Nat.add_mul] at hmul; omega
        have hr := run_append_room_src (P := P) w t tx ty e i hT.und hi g o n c x m news hs hroom
          (fun j hj' => by rw [blk_cell hg]; simp; omega) (fun j _ => blk_free hg _)
        obtain ⟨cur', h1, h2, h3, h4⟩ := setCells_block g news (o + n * i.size) w cur e (0, 0) hg hfit
        refine ⟨_, _, by rw [hv]; exact hr, ⟨hlen, hl, .inr ⟨g, o, c, cur', rfl, h1, hroom, fun h => by rw [h2]; exact hsz h, fun j hj' => ?_⟩⟩, by rw [hv]; exact grown_setCells g _ _, .inl (by rw [hv]; rfl)⟩
        by_cases hlt : j < n * i.size
        · rw [h4 _ (by omega), hj j hlt, List.getElem?_append_left (by rw [hO.1]; exact hlt)]
        · have := h3 (j - n * i.size) (by rw [hnl]; rw [Nat.add_mul] at hj'; omega)
          rw [show o + n * i.size + (j - n * i.size) = o + j from by omega] at this
          rw [this, List.getElem?_append_right (by rw [hO.1]; omega), hO.1]
    · exact grow _ c hv (by omega)

/-- append, as the walk meets it: behind 'at_builtin'. -/
theorem wp_app {P : Program} {w : World} {ops : Array Oper} {rest : List Oper} {o : Oper} {a : Act} {Q : Exit → Act → World → Prop} (hgd : o.guard = none) (s x : Operand) (t tx : TypeId)
    (ho : o.op = .call { callee := .builtin .append, args := #[s, x], argTypes := #[t, tx] }) {e : TypeId} {sz by_ : Nat} {z : Value} (hT : ElemT P t e sz by_ z)
    {n : Nat} {cs : List Value} {v y : Value} (hO : OwnR w v e sz n cs) (hv : a.eval s = v) {m : Nat} {news : List Value} (hs : Src P sz tx y m news w) (hy : a.eval x = y)
    (hb : (n + m) * by_ ≤ 140737488355328) (hl : n + m ≤ 9223372036854775807)
    (h : ∀ v' w', OwnR w' v' e sz (n + m) (cs ++ news) → w.grownBy w' v.ownBlock → (v'.ownBlock = v.ownBlock ∨ ∃ g, v'.ownBlock = some g ∧ w.heap.size ≤ g) → wpList P ops Q rest (a.put o.dst v') w') :
    wpList P ops Q (o :: rest) a w := by
  refine wpList_plain hgd fun K hK => ?_
  obtain ⟨v', w', hr, h2, h3, h4⟩ := app_run (P := P) (w := w) t tx o.type e sz by_ z hT v n cs hO y m news hs hb hl
  unfold Oper.wp execOp
  simp only [ho, resolve, invoke, builtin, Sem.run_bind, Sem.run_pure, Result.andThen_ok, List.map_toArray, List.map_cons, List.map_nil, hv, hy, hr]
  exact hK _ _ (h v' w' h2 h3 h4)

/-! ### what is appended -/
theorem RowR.src {P : Program} {H : RO} {w : World} {v : Value} {n : Nat} {cs : List Value} {sz : Nat} {tx e' : TypeId} (hk : P.underlying tx = some (.slice e')) (h : RowR H v n cs) (hG : GoodH H w) (hl : cs.length = n * sz) (hp : 0 < sz) (h1 : ∀ u ∈ cs, u.oneCell' = true) : Src P sz tx v n cs w := by
  obtain ⟨A, c, rfl, hc, hn, h⟩ := h
  by_cases hne : cs = []
  · subst hne
    have h0 : n = 0 := by
      rcases Nat.eq_zero_or_pos n with h0 | h0
      · exact h0
      · have := Nat.mul_pos h0 hp; simp at hl; omega
    subst h0
    cases A with
    | none => exact Src.ofNil w hk c
    | some a => exact Src.ofSlice w hk a 0 c [] (by simp) (fun j u hu => by simp at hu) (fun _ h => by cases h)
  · obtain ⟨b, o, cur, e, fr, rfl, hb, hj⟩ := h hne
    refine Src.ofSlice w hk _ n c cs hl (fun j u hu => ?_) h1
    rw [add_off, blk_cell (hG _ _ hb), hj j (List.getElem?_eq_some_iff.1 hu).1]
    exact hu
theorem OwnR.src {P : Program} {w : World} {v : Value} {e : TypeId} {n : Nat} {cs : List Value} {sz : Nat} {tx e' : TypeId} (hk : P.underlying tx = some (.slice e')) (h : OwnR w v e sz n cs) (h1 : ∀ u ∈ cs, u.oneCell' = true) : Src P sz tx v n cs w := by
  obtain ⟨hl, hn, h⟩ := h
  rcases h with ⟨rfl, rfl⟩ | ⟨g, o, c, cur, rfl, hg, hc, hs, hj⟩
  · obtain rfl : cs = [] := List.eq_nil_of_length_eq_zero (by simpa using hl)
    exact Src.ofNil w hk 0
  · refine Src.ofSlice w hk _ n c cs hl (fun j u hu => ?_) h1
    rw [add_off, blk_cell hg, hj j (by have := (List.getElem?_eq_some_iff.1 hu).1; omega)]
    exact hu
/-- The cells of a new block: one element, or some, written out. -/
theorem src_new {P : Program} {w : World} {cs : Array Value} {e : TypeId} {sz n : Nat} {tx e' : TypeId} (hk : P.underlying tx = some (.slice e')) (hl : cs.size = n * sz) (h1 : ∀ u ∈ cs.toList, u.oneCell' = true) : Src P sz tx (.slice (some ⟨w.heap.size, 0, none⟩) n n) n cs.toList (w.alloc (.cells cs e)) :=
  Src.ofSlice _ hk _ n n cs.toList (by simpa using hl) (fun j u hu => by rw [add_off, blk_cell (blk_new w _)]; simpa using hu) h1
/-- append(v, y): one element of one cell; it lies in a new block of its own. -/
theorem wp_app1 {P : Program} {w : World} {ops : Array Oper} {rest : List Oper} {o : Oper} {a : Act} {Q : Exit → Act → World → Prop} (hgd : o.guard = none) (s x : Operand) (t : TypeId)
    (ho : o.op = .call { callee := .builtin .append, args := #[s, x], argTypes := #[t, t] }) {e by_ : Nat} {z : Value} (hT : ElemT P t e 1 by_ z)
    {n : Nat} {cs : List Value} {v y : Value} (hO : OwnR w v e 1 n cs) (hv : a.eval s = v) {N : Nat} (hx : a.eval x = .slice (some ⟨N, 0, none⟩) 1 1) (hN : N = w.heap.size) (h1 : y.oneCell' = true)
    (hb : (n + 1) * by_ ≤ 140737488355328) (hl : n + 1 ≤ 9223372036854775807)
    (h : ∀ v' w', OwnR w' v' e 1 (n + 1) (cs ++ [y]) → w.grownBy w' v.ownBlock → (v'.ownBlock = v.ownBlock ∨ ∃ g, v'.ownBlock = some g ∧ w.heap.size ≤ g) → wpList P ops Q rest (a.put o.dst v') w') :
    wpList P ops Q (o :: rest) a (w.alloc (.cells #[y] e)) := by
  subst hN
  refine wp_app hgd s x t t ho hT (hO.fr ((Fr.refl [] w).alloc _) (fun _ _ => by simp)) hv (src_new (cs := #[y]) hT.und (by simp) (by simpa using h1)) hx hb hl ?_
  intro v' w' h2 h3 h4
  refine h v' w' h2 ⟨h3.os, h3.tape, h3.output, by have := h3.size; simp at this; omega, fun k hk hn => ?_⟩ ?_
  · rw [h3.block k (by simp; omega) hn]; exact Below.heap_alloc w _ k hk
  · rcases h4 with h4 | ⟨g, hg, hge⟩
    · exact .inl h4
    · exact .inr ⟨g, hg, by simp at hge; omega⟩

/-- The same, of elements of any number of cells, written out in a new block. -/
theorem wp_appN {P : Program} {w : World} {ops : Array Oper} {rest : List Oper} {o : Oper} {a : Act} {Q : Exit → Act → World → Prop} (hgd : o.guard = none) (s x : Operand) (t : TypeId)
    (ho : o.op = .call { callee := .builtin .append, args := #[s, x], argTypes := #[t, t] }) {e sz by_ : Nat} {z : Value} (hT : ElemT P t e sz by_ z)
    {n m : Nat} {cs : List Value} {v : Value} {ys : Array Value} (hO : OwnR w v e sz n cs) (hv : a.eval s = v) {N : Nat} (hx : a.eval x = .slice (some ⟨N, 0, none⟩) m m) (hN : N = w.heap.size) (hm : ys.size = m * sz) (h1 : ∀ u ∈ ys.toList, u.oneCell' = true)
    (hb : (n + m) * by_ ≤ 140737488355328) (hl : n + m ≤ 9223372036854775807)
    (h : ∀ v' w', OwnR w' v' e sz (n + m) (cs ++ ys.toList) → w.grownBy w' v.ownBlock → (v'.ownBlock = v.ownBlock ∨ ∃ g, v'.ownBlock = some g ∧ w.heap.size ≤ g) → wpList P ops Q rest (a.put o.dst v') w') :
    wpList P ops Q (o :: rest) a (w.alloc (.cells ys e)) := by
  subst hN
  refine wp_app hgd s x t t ho hT (hO.fr ((Fr.refl [] w).alloc _) (fun _ _ => by simp)) hv (src_new (cs := ys) hT.und hm h1) hx hb hl ?_
  intro v' w' h2 h3 h4
  refine h v' w' h2 ⟨h3.os, h3.tape, h3.output, by have := h3.size; simp at this; omega, fun k hk hn => ?_⟩ ?_
  · rw [h3.block k (by simp; omega) hn]; exact Below.heap_alloc w _ k hk
  · rcases h4 with h4 | ⟨g, hg, hge⟩
    · exact .inl h4
    · exact .inr ⟨g, hg, by simp at hge; omega⟩
theorem toList_tl (s : ByteArray) : s.toList = tl s := by
  rw [ByteArray.toList, ByteArray.toList_loop_eq s s.size 0 [] (by omega) (by omega)]
  simp [tl]
theorem bs_empty (l : List UInt8) : (bs l).toList.isEmpty = l.isEmpty := by
  rw [toList_tl, tl_bs]
theorem bs_isnil {l : List UInt8} (h : l = []) : (bs l).toList = [] := by subst h; rw [toList_tl, tl_bs]
theorem row_slice {H : RO} {v : Value} {n : Nat} {cs : List Value} (h : RowR H v n cs) : ∃ A c, v = .slice A n c := by
  obtain ⟨A, c, h, _⟩ := h
  exact ⟨A, c, h⟩

/-! ### string(b) -/
theorem nums_bs (l : List UInt8) : strOfNums (l.map fun c => (c.toNat : Int)) = bs l := by
  unfold strOfNums bs
  congr 1
  rw [List.map_map]
  have : (fun n : Int => UInt8.ofNat n.toNat) ∘ (fun c : UInt8 => (c.toNat : Int)) = id := by funext c; simp
  rw [this, List.map_id]
theorem conv_cells {P : Program} {w : World} {src dst e : TypeId} (hs : P.underlying src = some (.slice e)) (he : P.underlying e = some (.int .u8)) (hd : P.underlying dst = some .string)
    (g o c : Nat) (l : List UInt8) (hj : ∀ j, j < l.length → w.cell? ⟨g, o + j, none⟩ = (u8s l)[j]?) : (convert src dst (.slice (some ⟨g, o, none⟩) l.length c)).run P w = .ok (.string (bs l)) w := by
  rw [← nums_bs]
  refine run_convert_bytes_arg w src e hs he g o l.length c _ (by simp) (fun i hi => ?_) dst hd
  rw [hj i hi]
  simp [u8s, u8, hi]
theorem conv_own {P : Program} {w : World} {src dst e e' : TypeId} (hs : P.underlying src = some (.slice e)) (he : P.underlying e = some (.int .u8)) (hd : P.underlying dst = some .string)
    {v : Value} {l : List UInt8} (h : OwnR w v e' 1 l.length (u8s l)) : (convert src dst v).run P w = .ok (.string (bs l)) w := by
  obtain ⟨_, _, ⟨rfl, h0⟩ | ⟨g, o, c, cur, rfl, hg, _, _, hj⟩⟩ := h
  · obtain rfl : l = [] := List.eq_nil_of_length_eq_zero h0
    exact run_convert_bytes_nil w src e hs he 0 0 dst hd
  · exact conv_cells hs he hd g o c l fun j hl => by rw [blk_cell hg, hj j (by omega)]
theorem conv_row {P : Program} {w : World} {src dst e : TypeId} (hs : P.underlying src = some (.slice e)) (he : P.underlying e = some (.int .u8)) (hd : P.underlying dst = some .string)
    {H : RO} (hG : GoodH H w) {v : Value} {l : List UInt8} (h : BytR H v l) : (convert src dst v).run P w = .ok (.string (bs l)) w := by
  obtain ⟨A, c, rfl, _, _, h⟩ := h
  by_cases hl : l = []
  · subst hl
    cases A with
    | none => exact run_convert_bytes_nil w src e hs he 0 c dst hd
    | some a =>
      show (convert src dst (.slice (some a) 0 c)).run P w = _
      rw [run_convert_bytes_string w src dst e _ 0 c hs he hd]
      simp [Conv.bytesToString, loadCells, loadCellsFrom, bs, ByteArray.empty, ByteArray.emptyWithCapacity]
      rfl
  · obtain ⟨b, o, cur, e', fr, rfl, hb, hj⟩ := h (by simpa [u8s] using hl)
    exact conv_cells hs he hd b o c l fun j hl => by rw [blk_cell (hG _ _ hb), hj j (by rw [u8s_len]; exact hl)]
/-! ### cuts of slices: v[k:], v[:h], v[k:h] -/
theorem add_zero' (a : Addr) : a.add 0 = a := by simp [Addr.add]
theorem map_add_zero (A : Option Addr) : A.map (·.add 0) = A := by cases A <;> simp [add_zero']
theorem elem_size {P : Program} {t e : TypeId} {sz by_ : Nat} {z : Value} (hT : ElemT P t e sz by_ z) : P.underlying t = some (.slice (P.elem t)) ∧ ∀ w : World, (Go.sizeOf (P.elem t)).run P w = Result.ok sz w := by
  obtain ⟨i, hi, hzz⟩ := Option.map_eq_some_iff.1 hT.info
  simp only [Prod.mk.injEq] at hzz
  have he : P.elem t = e := by simp [Program.elem, hT.und]
  rw [he]
  exact ⟨hT.und, fun w => by simp [Go.sizeOf, typeInfo, hi, hzz.2.1]⟩
theorem cut_run {P : Program} {t e : TypeId} {sz by_ : Nat} {z : Value} (hT : ElemT P t e sz by_ z) (A : Option Addr) (n c k h : Nat) (hk : k ≤ h) (hh : h ≤ c) (w : World) :
    (Instr.slice t (.slice A n c) (some (.int .i64 k)) (some (.int .i64 h)) none).run P w = .ok (.slice (if c = k then A else A.map (·.add (k * sz))) (h - k) (c - k)) w := by
  obtain ⟨h1, h2⟩ := elem_size hT
  rw [run_slice_lh w t A n c h1 .i64 .i64 k h (by omega) (by omega) (by omega), h2]
  simp [sliced, Result.andThen]
theorem from_run {P : Program} {t e : TypeId} {sz by_ : Nat} {z : Value} (hT : ElemT P t e sz by_ z) (A : Option Addr) (n c k : Nat) (hk : k ≤ n) (w : World) :
    (Instr.slice t (.slice A n c) (some (.int .i64 k)) none none).run P w = .ok (.slice (if c = k then A else A.map (·.add (k * sz))) (n - k) (c - k)) w := by
  obtain ⟨h1, h2⟩ := elem_size hT
  rw [run_slice_l w t A n c h1 .i64 k (by omega) (by omega), h2]
  simp [sliced, Result.andThen]
theorem to_run {P : Program} {t e : TypeId} {sz by_ : Nat} {z : Value} (hT : ElemT P t e sz by_ z) (A : Option Addr) (n c h : Nat) (hh : h ≤ c) (w : World) :
    (Instr.slice t (.slice A n c) none (some (.int .i64 h)) none).run P w = .ok (.slice A h c) w := by
  obtain ⟨h1, h2⟩ := elem_size hT
  rw [run_slice_h w t A n c h1 .i64 h (by omega) (by omega), h2]
  simp [sliced, Result.andThen, map_add_zero]
theorem RowR.cut {H : RO} {A : Option Addr} {n c sz : Nat} {cs : List Value} (hr : RowR H (.slice A n c) n cs) (hl : cs.length = n * sz) (k h : Nat) (hk : k ≤ h) (hh : h ≤ n) :
    RowR H (.slice (if c = k then A else A.map (·.add (k * sz))) (h - k) (c - k)) (h - k) ((cs.drop (k * sz)).take ((h - k) * sz)) := by
  obtain ⟨A', c', e, hc, hn, hr⟩ := hr
  cases e
  refine ⟨_, _, rfl, by omega, by omega, fun hne => ?_⟩
  have hne' : cs ≠ [] := by rintro rfl; simp at hne
  obtain ⟨b, o, cur, e, fr, rfl, hb, hj⟩ := hr hne'
  have hm : (h - k) * sz + k * sz ≤ n * sz := by rw [← Nat.add_mul]; exact Nat.mul_le_mul_right _ (by omega)
  have hck : c ≠ k := by
    rintro rfl
    have : h = c := by omega
    subst this
    simp at hne
  rw [if_neg hck]
  refine ⟨b, o + k * sz, cur, e, fr, by simp [add_off], hb, fun j hj' => ?_⟩
  simp only [List.length_take, List.length_drop] at hj'
  rw [List.getElem?_take, if_pos (by omega), List.getElem?_drop, Nat.add_assoc, hj _ (by omega)]
theorem RowR.from {H : RO} {A : Option Addr} {n c sz : Nat} {cs : List Value} (hr : RowR H (.slice A n c) n cs) (hl : cs.length = n * sz) (k : Nat) (hk : k ≤ n) :
    RowR H (.slice (if c = k then A else A.map (·.add (k * sz))) (n - k) (c - k)) (n - k) (cs.drop (k * sz)) := by
  have h := hr.cut hl k n hk (Nat.le_refl _)
  rwa [List.take_of_length_le (by simp [hl, Nat.sub_mul])] at h
theorem RowR.to {H : RO} {A : Option Addr} {n c sz : Nat} {cs : List Value} (hr : RowR H (.slice A n c) n cs) (hl : cs.length = n * sz) (h : Nat) (hh : h ≤ n) :
    RowR H (.slice A h c) h (cs.take (h * sz)) := by
  obtain ⟨A', c', e, hc, hn, hr⟩ := hr
  cases e
  refine ⟨_, _, rfl, by omega, by omega, fun hne => ?_⟩
  obtain ⟨b, o, cur, e, fr, rfl, hb, hj⟩ := hr (by rintro rfl; simp at hne)
  refine ⟨b, o, cur, e, fr, rfl, hb, fun j hj' => ?_⟩
  simp only [List.length_take] at hj'
  rw [List.getElem?_take, if_pos (by omega), hj _ (by omega)]
theorem OwnR.from {w : World} {A : Option Addr} {e n c sz : Nat} {cs : List Value} (ho : OwnR w (.slice A n c) e sz n cs) (k : Nat) (hk : k ≤ n) :
    OwnR w (.slice (if c = k then A else A.map (·.add (k * sz))) (n - k) (c - k)) e sz (n - k) (cs.drop (k * sz)) := by
  obtain ⟨h1, h2, h3⟩ := ho
  refine ⟨by simp [h1, Nat.sub_mul], by omega, ?_⟩
  rcases h3 with ⟨e1, rfl⟩ | ⟨g, o, c', cur, e1, hg, hc, hs, hj⟩
  · cases e1
    obtain rfl : k = 0 := by omega
    exact .inl ⟨by simp, rfl⟩
  · cases e1
    refine .inr ⟨g, if c = k then o else o + k * sz, c - k, cur, ?_, hg, by omega, fun hp => ?_, fun j hj' => ?_⟩
    · split <;> simp [add_off]
    · rw [if_neg (by omega)]
      have := hs (by omega)
      have hm : (c - k) * sz + k * sz = c * sz := by rw [← Nat.add_mul]; congr 1; omega
      omega
    · have hm : (n - k) * sz + k * sz = n * sz := by rw [← Nat.add_mul]; congr 1; omega
      have hck : c ≠ k := by
        rintro rfl
        have : n = c := by omega
        subst this
        simp at hj'
      rw [if_neg hck, List.getElem?_drop, Nat.add_assoc]
      exact hj _ (by omega)
theorem cut_block (A : Option Addr) (n c k m : Nat) (n' c' : Nat) : (Value.slice (if c = k then A else A.map (·.add m)) n' c').ownBlock = (Value.slice A n c).ownBlock := by
  split
  · cases A <;> rfl
  · cases A with
    | none => rfl
    | some a => simp [Value.ownBlock, Addr.add]; split <;> rfl
#print axioms wp_app
end Bpm
