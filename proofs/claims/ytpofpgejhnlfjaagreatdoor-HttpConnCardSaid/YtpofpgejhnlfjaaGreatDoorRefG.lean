/- The reference's connection. -/
import Derived.Test.YtpofpgejhnlfjaaGreatDoorRefF
import Derived.Test.YtpofpgejhnlfjaaGreatDoorHttpM
set_option linter.unusedVariables false
set_option linter.unusedSimpArgs false
set_option maxRecDepth 100000
namespace Go.Proofs.YtpofpgejhnlfjaaGreatDoor
open Go Go.RowKit Bpm Bph

def RConnAt (w : World) (g : Nat) (bv : Value) (over : Bool) : Prop := w.heap[g]? = some (.cells #[.bool true, bv, .bool over] 69 (0, 0))
theorem rnone_ok (w : World) (g : Nat) (bv : Value) (over : Bool) (h : RConnAt w g bv over) :
    Calls Tryz.prog 36 #[.pointer (some ⟨g, 0, none⟩)] w fun e w' => e = .returned (.bool false) ∧ w = w' := by
  have c0 := blk_cell h 0
  simp at c0
  go_enter Tryz.func36, Tryz.ntmps36
  go_wp2
  go_ret
  exact ⟨rfl, rfl⟩
theorem rnew_ok (w : World) : Calls Tryz.prog 14 #[] w fun e w' => e = .returned (.pointer (some ⟨w.heap.size, 0, none⟩)) ∧ w.alloc (.cells #[.bool true, .slice none 0 0, .bool false] 69) = w' := by
  go_enter Tryz.func14, Tryz.ntmps14
  go_wp2
  go_ret
  exact ⟨rfl, rfl⟩
theorem rover_ok (w : World) (g : Nat) (bv : Value) (over : Bool) (h : RConnAt w g bv over) :
    Calls Tryz.prog 17 #[.pointer (some ⟨g, 0, none⟩)] w fun e w' => e = .returned (.bool over) ∧ w = w' := by
  have c2 := blk_cell h 2
  simp at c2
  go_enter Tryz.func17, Tryz.ntmps17
  go_wp2_with (go_at_call 36; refine (rnone_ok _ _ _ _ h).mono ?_; rintro e w' ⟨rfl, rfl⟩)
  go_ret
  exact ⟨rfl, rfl⟩
theorem rleft_ok (w : World) (g : Nat) (bv : Value) (over : Bool) (buf : List UInt8) (h : RConnAt w g bv over) (ho : OwnR w bv 5 1 buf.length (u8s buf)) :
    Calls Tryz.prog 19 #[.pointer (some ⟨g, 0, none⟩)] w fun e w' => e = .returned (.int .i64 buf.length) ∧ w = w' := by
  have c1 := blk_cell h 1
  obtain ⟨A, c, rfl⟩ := ho.slice
  simp at c1
  go_enter Tryz.func19, Tryz.ntmps19
  go_wp2_with (go_at_call 36; refine (rnone_ok _ _ _ _ h).mono ?_; rintro e w' ⟨rfl, rfl⟩)
  go_ret
  exact ⟨rfl, rfl⟩
theorem left_ok (w : World) (g : Nat) (bv : Value) (over : Bool) (buf : List UInt8) (h : ConnAt w g bv over) (ho : OwnR w bv 5 1 buf.length (u8s buf)) :
    Calls Tryz.prog 18 #[.pointer (some ⟨g, 0, none⟩)] w fun e w' => e = .returned (.int .i64 ((if over = true then 0 else buf.length : Nat) : Int)) ∧ w = w' := by
  have c1 := blk_cell h 1
  have c2 := blk_cell h 2
  obtain ⟨A, c, rfl⟩ := ho.slice
  simp at c1 c2
  cases over with
  | true =>
    go_enter Tryz.func18, Tryz.ntmps18
    go_wp2_with (go_at_call 34; refine (none_ok _ _ _ _ h).mono ?_; rintro e w' ⟨rfl, rfl⟩)
    go_ret
    exact ⟨rfl, rfl⟩
  | false =>
    go_enter Tryz.func18, Tryz.ntmps18
    go_wp2_with (go_at_call 34; refine (none_ok _ _ _ _ h).mono ?_; rintro e w' ⟨rfl, rfl⟩)
    go_ret
    exact ⟨rfl, rfl⟩
theorem rfeed_over (w : World) (g : Nat) (bv b : Value) (h : RConnAt w g bv true) :
    Calls Tryz.prog 15 #[.pointer (some ⟨g, 0, none⟩), b] w fun e w' => e = .returned (.int .i64 10) ∧ w = w' := by
  have c2 := blk_cell h 2
  simp at c2
  go_enter Tryz.func15, Tryz.ntmps15
  go_wp2_with (go_at_call 36; refine (rnone_ok _ _ _ _ h).mono ?_; rintro e w' ⟨rfl, rfl⟩)
  go_ret
  exact ⟨rfl, rfl⟩
/-- A connection of the reference. -/
structure RCn (H : RO) (w : World) (g : Nat) (bv : Value) (buf : List UInt8) (over : Bool) : Prop where
  at_ : RConnAt w g bv over
  own : OwnR w bv 5 1 buf.length (u8s buf)
  no : H g = none
  nob : ∀ k, bv.ownBlock = some k → H k = none
  far : ∀ k, bv.ownBlock = some k → k ≠ g
theorem RCn.fr {H : RO} {w w' : World} {g : Nat} {bv : Value} {buf : List UInt8} {over : Bool} (h : RCn H w g bv buf over) {S : List Nat} (f : Fr S w w') (hg : g ∉ S) (hb : ∀ k, bv.ownBlock = some k → k ∉ S) : RCn H w' g bv buf over :=
  ⟨f.blk h.at_ hg, h.own.fr f hb, h.no, h.nob, h.far⟩
theorem RCn.ext {H H' : RO} {w : World} {g : Nat} {bv : Value} {buf : List UInt8} {over : Bool} (h : RCn H w g bv buf over) {w0 : World} (x : Ext H H' w0) (hs : w.heap.size ≤ w0.heap.size) : RCn H' w g bv buf over :=
  ⟨h.at_, h.own, x.none (Nat.lt_of_lt_of_le (blk_lt h.at_) hs) h.no, fun k hk => x.none (Nat.lt_of_lt_of_le (h.own.lt hk) hs) (h.nob k hk), h.far⟩
theorem RCn.new {H : RO} {w : World} (hG : GoodH H w) : RCn H (w.alloc (.cells #[.bool true, .slice none 0 0, .bool false] 69)) w.heap.size (.slice none 0 0) [] false :=
  ⟨blk_new w _, OwnR.nil _ _ _, hG.none_ge (Nat.le_refl _), fun k hk => (by cases hk), fun k hk => (by cases hk)⟩
theorem RCn.lt {H : RO} {w : World} {g : Nat} {bv : Value} {buf : List UInt8} {over : Bool} (h : RCn H w g bv buf over) : g < w.heap.size := blk_lt h.at_
def RFdPost (H : RO) (w : World) (g : Nat) (bv : Value) (buf : List UInt8) (e : Ending) (w' : World) : Prop :=
  e = .returned (.int .i64 0) ∧ Fr (g :: bv.ownBlock.toList) w w' ∧ GoodH H w' ∧ ∃ bv', RCn H w' g bv' buf false ∧ (bv'.ownBlock = bv.ownBlock ∨ ∃ k, bv'.ownBlock = some k ∧ w.heap.size ≤ k)
theorem rfeed_ok (H : RO) (w : World) (hG : GoodH H w) (g : Nat) (bv b : Value) (buf l : List UInt8) (hc : RCn H w g bv buf false) (hb : BytR H b l) (hl : buf.length + l.length ≤ 1048576) :
    Calls Tryz.prog 15 #[.pointer (some ⟨g, 0, none⟩), b] w (RFdPost H w g bv (buf ++ l)) := by
  have h := hc.at_
  have ho := hc.own
  have c2 := blk_cell h 2
  have c1 := blk_cell h 1
  have f1 := blk_free h 1
  have hs := RowR.src (P := Tryz.prog) (tx := 22) (e' := 5) (sz := 1) (by kernel_rfl) hb hG (by simp [u8s]) (by omega) (u8s_one l)
  obtain ⟨A, c, rfl, _, _, _⟩ := hb
  obtain ⟨A2, c2', rfl⟩ := ho.slice
  simp at c2 c1
  have hlong : ¬ (1048576 - (buf.length : Int) < l.length) := by omega
  have HC := hid hc
  have GG := hid hG
  clear hc hG
  go_enter Tryz.func15, Tryz.ntmps15
  go_wp2_with (first | (go_at_call 36; refine (rnone_ok _ _ _ _ h).mono ?_; rintro e w' ⟨rfl, rfl⟩) | (at_builtin; refine wp_app rfl _ _ _ _ rfl elU8 ho rfl hs rfl (by omega) (by omega) ?_; intro v' w1 o1 g1 at1; obtain ⟨A3, c3, rfl⟩ := OwnR.slice o1; have h1 := (Fr.of_grown g1).blk h (by intro hx; exact HC.out.far g (by simpa using hx) rfl); have d1 := blk_cell h1 1; have e1 := blk_free h1 1; simp at d1; have H1 := hid h1; have G1 := hid g1; have O1 := hid o1; have A1 := hid at1; clear h1 g1 o1 at1))
  go_ret
  have hF : Fr (g :: (Value.slice A2 buf.length c2').ownBlock.toList) w (w1.setCell ⟨g, 1, none⟩ (.slice A3 (buf.length + l.length) c3)) :=
    Fr.then ((Fr.of_grown G1.out).mono (fun x hx => .inl (by simp at hx ⊢; exact .inr hx))) ((Fr.refl [g] w1).setCell (.inl (by simp)) _) (by simp)
  have hnew : ∀ k, (Value.slice A3 (buf.length + l.length) c3).ownBlock = some k → k ≠ g ∧ H k = none := fun k hk => by
    rcases A1.out with e | ⟨k', e, hge⟩
    · rw [e] at hk; exact ⟨HC.out.far k hk, HC.out.nob k hk⟩
    · rw [e] at hk; cases hk; have := HC.out.lt; exact ⟨by omega, GG.out.none_ge hge⟩
  refine ⟨rfl, hF, GG.out.fr hF (fun x hx => ?_), _, ⟨by unfold RConnAt; simpa using blk_set H1.out 1 _, ?_, HC.out.no, fun k hk => (hnew k hk).2, fun k hk => (hnew k hk).1⟩, A1.out⟩
  · rcases List.mem_cons.1 hx with rfl | hx
    · exact HC.out.no
    · exact HC.out.nob x (by simpa using hx)
  · rw [u8s_append, List.length_append]
    exact O1.out.fr ((Fr.refl [g] w1).setCell (.inl (by simp)) _) (fun k hk => by simpa using (hnew k hk).1)

def RNPost (H : RO) (w : World) (g : Nat) (bv : Value) (buf : List UInt8) (e : Ending) (w' : World) : Prop :=
  Fr [g] w w' ∧ match parse buf with
  | .more => e = .returned (.tuple #[zeroV, .int .i64 0, .bool false]) ∧ GoodH H w' ∧ RCn H w' g bv buf false
  | .fault st => e = .returned (.tuple #[zeroV, .int .i64 st, .bool true]) ∧ GoodH H w' ∧ RCn H w' g (.slice none 0 0) [] true
  | .done r n => ∃ v bv' H', e = .returned (.tuple #[v, .int .i64 0, .bool true]) ∧ ReqR H' v r ∧ Ext H H' w ∧ GoodH H' w' ∧ RCn H' w' g bv' (if r.close = true then [] else buf.drop n) r.close ∧ (∀ k, bv'.ownBlock = some k → w.heap.size ≤ k) ∧ n ≤ buf.length
theorem rn_ret {Q : Ending → World → Prop} {a : Act} {w' : World} {rb : Nat} {b c : Value} {v0 v1 v2 v3 v4 : Value} {fr : Nat × Nat} (hd : a.defers = []) (h2 : a.tmps.getD 2 undef = .pointer (some ⟨rb, 0, none⟩)) (h3 : a.tmps.getD 3 undef = b) (h4 : a.tmps.getD 4 undef = c)
    (h : w'.heap[rb]? = some (.cells #[v0, v1, v2, v3, v4] 32 fr)) (hQ : Q (.returned (.tuple #[.agg #[v0, v1, v2, v3, v4], b, c])) w') : bodyPost Tryz.prog Tryz.f16 Q .ret a w' := by
  have q0 := blk_cell h 0
  have q1 := blk_cell h 1
  have q2 := blk_cell h 2
  have q3 := blk_cell h 3
  have q4 := blk_cell h 4
  simp at q0 q1 q2 q3 q4
  refine bodyPost_ret (v := .tuple #[.agg #[v0, v1, v2, v3, v4], b, c]) ?_ hd hQ
  rw [Array.getD_eq_getD_getElem?] at h2 h3 h4
  simp only [results, Tryz.results16]
  simp [h2, h3, h4, go_sem, q0, q1, q2, q3, q4]
/-- What the walk of 'Next' reads of a world. -/
theorem rn_facts {w : World} {g rb : Nat} {bv : Value} {over : Bool} (h : RConnAt w g bv over) (hr : w.heap[rb]? = some (.cells reqZ 32 (0, 0))) :
    (w.cell? ⟨rb, 0, none⟩ = some (.string ⟨#[]⟩) ∧ w.cell? ⟨rb, 1, none⟩ = some (.string ⟨#[]⟩) ∧ w.cell? ⟨rb, 2, none⟩ = some (.slice none 0 0) ∧ w.cell? ⟨rb, 3, none⟩ = some (.bool false) ∧ w.cell? ⟨rb, 4, none⟩ = some (.slice none 0 0)) ∧
    (w.frozen? ⟨rb, 0, none⟩ = false ∧ w.frozen? ⟨rb, 1, none⟩ = false ∧ w.frozen? ⟨rb, 2, none⟩ = false ∧ w.frozen? ⟨rb, 3, none⟩ = false ∧ w.frozen? ⟨rb, 4, none⟩ = false) ∧
    (w.cell? ⟨g, 0, none⟩ = some (.bool true) ∧ w.cell? ⟨g, 1, none⟩ = some bv ∧ w.cell? ⟨g, 2, none⟩ = some (.bool over)) ∧ w.frozen? ⟨g, 1, none⟩ = false ∧ w.frozen? ⟨g, 2, none⟩ = false := by
  have c0 := blk_cell hr 0
  have c1 := blk_cell hr 1
  have c2 := blk_cell hr 2
  have c3 := blk_cell hr 3
  have c4 := blk_cell hr 4
  have d0 := blk_cell h 0
  have d1 := blk_cell h 1
  have d2 := blk_cell h 2
  simp [reqZ] at c0 c1 c2 c3 c4 d0 d1 d2
  exact ⟨⟨c0, c1, c2, c3, c4⟩, ⟨blk_free hr 0, blk_free hr 1, blk_free hr 2, blk_free hr 3, blk_free hr 4⟩, ⟨d0, d1, d2⟩, blk_free h 1, blk_free h 2⟩
theorem rnext_none (w : World) (g : Nat) (bv : Value) (h : RConnAt w g bv true) :
    Calls Tryz.prog 16 #[.pointer (some ⟨g, 0, none⟩)] w fun e w' => e = .returned (.tuple #[zeroV, .int .i64 0, .bool false]) ∧ Fr [] w w' := by
  have f0 : Fr [] w (w.alloc (.cells reqZ 32)) := (Fr.refl [] w).alloc _
  have hr := blk_new w (.cells reqZ 32)
  have h1 := f0.blk h (by simp)
  have HH := hid h
  obtain ⟨⟨c0, c1, c2, c3, c4⟩, ⟨y0, y1, y2, y3, y4⟩, ⟨d0, d1, d2⟩, x1, x2⟩ := rn_facts h1 hr
  have HR := hid hr
  clear h hr h1 f0
  simp only [reqZ] at c0 c1 c2 c3 c4 y0 y1 y2 y3 y4 d0 d1 d2 x1 x2 HR
  go_enter Tryz.func16, Tryz.ntmps16
  go_wp2_with (go_at_call 36; refine (rnone_ok _ g bv true ((Fr.alloc (Fr.refl [] w) _).blk HH.out (by simp))).mono ?_; rintro e w' ⟨rfl, rfl⟩)
  exact rn_ret rfl rfl rfl rfl (blk_new w _) ⟨rfl, (Fr.refl [] w).alloc _⟩

theorem rn_more {H : RO} {w wr : World} {g : Nat} {bv : Value} {buf : List UInt8} (hG : GoodH H w) (hc : RCn H w g bv buf false) (HP : parse buf = .more) (fw : Fr [] w wr) (b0 b1 b2 b3 b4 : Value) (o : Obj) :
    RNPost H w g bv buf (.returned (.tuple #[.agg #[.string ⟨#[]⟩, .string ⟨#[]⟩, .slice none 0 0, .bool false, .slice none 0 0], .int .i64 0, .bool false])) ((set5 wr w.heap.size b0 b1 b2 b3 b4).alloc o) := by
  have hF : Fr [] w ((set5 wr w.heap.size b0 b1 b2 b3 b4).alloc o) := (fr_set5 fw (.inr (Nat.le_refl _)) _ _ _ _ _).alloc o
  refine ⟨hF.mono (by simp), ?_⟩
  rw [HP]
  exact ⟨rfl, hG.fr hF (by simp), hc.fr hF (by simp) (by simp)⟩
theorem rn_fault {H : RO} {w wr : World} {g : Nat} {bv : Value} {buf : List UInt8} {st : Int} (hG : GoodH H w) (hc : RCn H w g bv buf false) (HP : parse buf = .fault st) (fw : Fr [] w wr) (b0 b1 b2 b3 b4 : Value) (o : Obj) :
    RNPost H w g bv buf (.returned (.tuple #[.agg #[.string ⟨#[]⟩, .string ⟨#[]⟩, .slice none 0 0, .bool false, .slice none 0 0], .int .i64 st, .bool true])) ((set5 ((wr.setCell ⟨g, 2, none⟩ (.bool true)).setCell ⟨g, 1, none⟩ (.slice none 0 0)) w.heap.size b0 b1 b2 b3 b4).alloc o) := by
  have hlt := hc.lt
  have hF : Fr [g] w ((set5 ((wr.setCell ⟨g, 2, none⟩ (.bool true)).setCell ⟨g, 1, none⟩ (.slice none 0 0)) w.heap.size b0 b1 b2 b3 b4).alloc o) :=
    (fr_set5 (((fw.mono (by simp)).setCell (.inl (by simp)) _).setCell (.inl (by simp)) _) (.inr (Nat.le_refl _)) _ _ _ _ _).alloc o
  refine ⟨hF, ?_⟩
  rw [HP]
  have h1 := fw.blk hc.at_ (by simp)
  have h2 : RConnAt ((wr.setCell ⟨g, 2, none⟩ (.bool true)).setCell ⟨g, 1, none⟩ (.slice none 0 0)) g (.slice none 0 0) true := blk_set (blk_set h1 2 _) 1 _
  have h3 : RConnAt ((set5 ((wr.setCell ⟨g, 2, none⟩ (.bool true)).setCell ⟨g, 1, none⟩ (.slice none 0 0)) w.heap.size b0 b1 b2 b3 b4).alloc o) g (.slice none 0 0) true :=
    ((fr_set5 (Fr.refl [w.heap.size] _) (.inl (by simp)) _ _ _ _ _).alloc o).blk h2 (by simp; omega)
  exact ⟨rfl, hG.fr hF (by simp; exact hc.no), ⟨h3, OwnR.nil _ _ _, hc.no, (fun k hk => by cases hk), (fun k hk => by cases hk)⟩⟩
theorem rn_done {H H' : RO} {w w2 : World} {g : Nat} {bv v' q bd : Value} {buf : List UInt8} {r : Req} {n : Nat} (hgl : g < w.heap.size) (HP : parse buf = .done r n) (hcl : r.close = false) (hn : n ≤ buf.length) (fw : Fr [] w w2) (h : RConnAt w2 g bv false)
    (hx : Ext H H' w) (hG2 : GoodH H' w2) (hno : H' g = none) (hres : H' w.heap.size = none) (hq : ParR H' q r.q) (hb : BytR H' bd r.body) (ho : OwnR w2 v' 5 1 (buf.drop n).length (u8s (buf.drop n))) (hk : ∀ k, v'.ownBlock = some k → w.heap.size < k ∧ H' k = none) :
    RNPost H w g bv buf (.returned (.tuple #[.agg #[.string (bs r.m), .string (bs r.p), q, .bool false, bd], .int .i64 0, .bool true])) (set5 (w2.setCell ⟨g, 1, none⟩ v') w.heap.size (.string (bs r.m)) (.string (bs r.p)) q (.bool false) bd) := by
  have hF : Fr [g, w.heap.size] w2 (set5 (w2.setCell ⟨g, 1, none⟩ v') w.heap.size (.string (bs r.m)) (.string (bs r.p)) q (.bool false) bd) :=
    fr_set5 ((Fr.refl _ w2).setCell (.inl (by simp)) _) (.inl (by simp)) _ _ _ _ _
  refine ⟨fr_set5 ((fw.mono (by simp)).setCell (.inl (by simp)) _) (.inr (Nat.le_refl _)) _ _ _ _ _, ?_⟩
  rw [HP]
  have h2 : RConnAt (w2.setCell ⟨g, 1, none⟩ v') g v' false := blk_set h 1 _
  refine ⟨_, v', H', rfl, ⟨q, bd, by rw [hcl], hq, hb⟩, hx, hG2.fr hF (fun x hx => ?_), ⟨?_, ?_, hno, fun k hk' => (hk k hk').2, fun k hk' => ?_⟩, fun k hk' => Nat.le_of_lt (hk k hk').1, hn⟩
  · simp at hx
    rcases hx with rfl | rfl
    · exact hno
    · exact hres
  · rw [hcl]
    exact (fr_set5 (Fr.refl [w.heap.size] _) (.inl (by simp)) _ _ _ _ _).blk h2 (by simp; omega)
  · rw [hcl]
    exact ho.fr hF (fun k hk' => by have := (hk k hk').1; simp; omega)
  · have := (hk k hk').1; omega
theorem rn_close {H H' : RO} {w w2 : World} {g : Nat} {bv v' q bd : Value} {buf : List UInt8} {r : Req} {n : Nat} (hgl : g < w.heap.size) (HP : parse buf = .done r n) (hcl : r.close = true) (hn : n ≤ buf.length) (fw : Fr [] w w2) (h : RConnAt w2 g bv false)
    (hx : Ext H H' w) (hG2 : GoodH H' w2) (hno : H' g = none) (hres : H' w.heap.size = none) (hq : ParR H' q r.q) (hb : BytR H' bd r.body) :
    RNPost H w g bv buf (.returned (.tuple #[.agg #[.string (bs r.m), .string (bs r.p), q, .bool true, bd], .int .i64 0, .bool true])) (set5 (((w2.setCell ⟨g, 1, none⟩ v').setCell ⟨g, 2, none⟩ (.bool true)).setCell ⟨g, 1, none⟩ (.slice none 0 0)) w.heap.size (.string (bs r.m)) (.string (bs r.p)) q (.bool true) bd) := by
  have hF : Fr [g, w.heap.size] w2 (set5 (((w2.setCell ⟨g, 1, none⟩ v').setCell ⟨g, 2, none⟩ (.bool true)).setCell ⟨g, 1, none⟩ (.slice none 0 0)) w.heap.size (.string (bs r.m)) (.string (bs r.p)) q (.bool true) bd) :=
    fr_set5 ((((Fr.refl _ w2).setCell (.inl (by simp)) _).setCell (.inl (by simp)) _).setCell (.inl (by simp)) _) (.inl (by simp)) _ _ _ _ _
  refine ⟨fr_set5 ((((fw.mono (by simp)).setCell (.inl (by simp)) _).setCell (.inl (by simp)) _).setCell (.inl (by simp)) _) (.inr (Nat.le_refl _)) _ _ _ _ _, ?_⟩
  rw [HP]
  have h2 : RConnAt (((w2.setCell ⟨g, 1, none⟩ v').setCell ⟨g, 2, none⟩ (.bool true)).setCell ⟨g, 1, none⟩ (.slice none 0 0)) g (.slice none 0 0) true := blk_set (blk_set (blk_set h 1 _) 2 _) 1 _
  refine ⟨_, .slice none 0 0, H', rfl, ⟨q, bd, by rw [hcl], hq, hb⟩, hx, hG2.fr hF (fun x hx => ?_), ⟨?_, ?_, hno, (fun k hk' => by cases hk'), (fun k hk' => by cases hk')⟩, (fun k hk' => by cases hk'), hn⟩
  · simp at hx
    rcases hx with rfl | rfl
    · exact hno
    · exact hres
  · rw [hcl]
    exact (fr_set5 (Fr.refl [w.heap.size] _) (.inl (by simp)) _ _ _ _ _).blk h2 (by simp; omega)
  · rw [hcl]
    exact OwnR.nil _ _ _
set_option maxHeartbeats 2000000 in
theorem rnext_ok (H : RO) (w : World) (hG : GoodH H w) (g : Nat) (bv : Value) (buf : List UInt8) (hc : RCn H w g bv buf false) (hs : buf.length ≤ 2000000) :
    Calls Tryz.prog 16 #[.pointer (some ⟨g, 0, none⟩)] w (RNPost H w g bv buf) := by
  have f0 : Fr [] w (w.alloc (.cells #[.string ⟨#[]⟩, .string ⟨#[]⟩, .slice none 0 0, .bool false, .slice none 0 0] 32)) := (Fr.refl [] w).alloc _
  have hr := blk_new w (.cells #[.string ⟨#[]⟩, .string ⟨#[]⟩, .slice none 0 0, .bool false, .slice none 0 0] 32)
  have HC := hid hc
  have GG := hid hG
  have h1 := f0.blk hc.at_ (by simp)
  have hrd := rread_ok H (w.alloc (.cells #[.string ⟨#[]⟩, .string ⟨#[]⟩, .slice none 0 0, .bool false, .slice none 0 0] 32)) bv buf (hG.fr f0 (by simp)) ((BytW.of_own hc.own).fr f0 (by simp)) hs
  obtain ⟨A, c, rfl⟩ := hc.own.slice
  have hgl := hc.lt
  clear hc hG
  go_enter Tryz.func16, Tryz.ntmps16
  go_wp2_with fail
  generalize w.alloc _ = W at f0 hr h1 hrd ⊢
  obtain ⟨⟨c0, c1, c2, c3, c4⟩, ⟨y0, y1, y2, y3, y4⟩, ⟨d0, d1, d2⟩, x1, x2⟩ := rn_facts h1 hr
  have hzW := blk_lt hr
  have HR := hid hr
  have H1 := hid h1
  have F0 := hid f0
  have HRD := hid hrd
  clear hr h1 f0 hrd
  refine (rnone_ok W g _ false H1.out).mono ?_
  rintro e w' ⟨rfl, rfl⟩
  go_wp2_with fail
  refine HRD.out.mono ?_
  rintro e w1 ⟨f1, hx⟩
  have F1 := hid (F0.out.trans f1)
  have HR1 := hid (f1.blk HR.out (by simp))
  have H11 := hid (f1.blk H1.out (by simp))
  have hz1 := f1.size
  clear c0 c1 c2 c3 c4 y0 y1 y2 y3 y4 d0 d1 d2 x1 x2
  obtain ⟨⟨c0, c1, c2, c3, c4⟩, ⟨y0, y1, y2, y3, y4⟩, ⟨d0, d1, d2⟩, x1, x2⟩ := rn_facts H11.out HR1.out
  have hzg := blk_lt H11.out
  have hzr := blk_lt HR1.out
  cases hp : parse buf with
  | more =>
    have HP := hid hp
    rw [hp] at hx
    subst hx
    clear hp
    simp only [reqZ]
    go_wp2_with fail
    refine rn_ret rfl rfl rfl rfl (blk_alloc (blk_set5 (w := w1) HR1.out _ _ _ _ _) _) ?_
    exact rn_more GG.out HC.out HP.out F1.out _ _ _ _ _ _
  | fault st =>
    have HP := hid hp
    rw [hp] at hx
    obtain ⟨h0, rfl⟩ := hx
    have h0' : ((st : Int) != 0) = true := by simpa using h0
    have h0'' : ((st : Int) == 0) = false := by simpa using h0
    clear hp h0
    simp only [reqZ]
    go_wp2_with fail
    refine rn_ret rfl rfl rfl rfl (blk_alloc (blk_set5 (w := (w1.setCell ⟨g, 2, none⟩ (.bool true)).setCell ⟨g, 1, none⟩ (.slice none 0 0)) (blk_set_far (blk_set_far HR1.out (by show w.heap.size ≠ g; omega) _) (by show w.heap.size ≠ g; omega) _) _ _ _ _ _) _) ?_
    exact rn_fault GG.out HC.out HP.out F1.out _ _ _ _ _ _
  | done r n =>
    have HP := hid hp
    rw [hp] at hx
    obtain ⟨q, bd, H', rfl, hn1, hn2, x1', g1, p1, b1⟩ := hx
    cases hcl : r.close with
    | true =>
      have HCL := hid hcl
      clear hcl
      have hlc : buf.length ≤ c := (row_room (BytW.of_own HC.out.own)).1
      have hBc := BytW.of_own (HC.out.own.fr F1.out (by simp))
      obtain ⟨A2, c2', hcut, hB2, hc2, _⟩ := from_cut hBc hlc n hn2
      obtain ⟨Aq, cq, rfl⟩ := row_slice p1
      obtain ⟨Ab, cb, rfl⟩ := row_slice b1
      have hx : Ext H H' w := ⟨x1'.mono, fun k hk => x1'.old k (by omega)⟩
      have hno : H' g = none := hx.none hgl HC.out.no
      have hres : H' w.heap.size = none := (x1'.old _ hzW).trans (GG.out.none_ge (Nat.le_refl _))
      have f2 : Fr [] w1 ((w1.alloc (.cells #[.string (bs r.m), .string (bs r.p), .slice Aq r.q.length cq, .bool true, .slice Ab r.body.length cb] 32)).alloc (.cells #[] 5)) := ((Fr.refl [] w1).alloc _).alloc _
      have hB4 := hB2.fr f2 (by simp)
      have hsrc := RowR.src (P := Tryz.prog) (tx := 22) (e' := 5) (sz := 1) (by kernel_rfl) hB4 (BytW.good _) (by simp [u8s]) (by omega) (u8s_one _)
      have how : OwnR ((w1.alloc (.cells #[.string (bs r.m), .string (bs r.p), .slice Aq r.q.length cq, .bool true, .slice Ab r.body.length cb] 32)).alloc (.cells #[] 5)) (.slice (some ⟨w1.heap.size + 1, 0, none⟩) 0 0) 5 1 0 [] := ⟨by simp, by omega, .inr ⟨_, 0, 0, #[], rfl, by have := blk_new (w1.alloc (.cells #[.string (bs r.m), .string (bs r.p), .slice Aq r.q.length cq, .bool true, .slice Ab r.body.length cb] 32)) (.cells #[] 5); rwa [World.size_alloc] at this, by omega, by omega, by omega⟩⟩
      have hbox := blk_alloc (blk_new w1 (.cells #[.string (bs r.m), .string (bs r.p), .slice Aq r.q.length cq, .bool true, .slice Ab r.body.length cb] 32)) (.cells #[] 5)
      have hdl : (buf.drop n).length = buf.length - n := by simp
      rw [hdl] at hsrc
      have hn0 : ((n : Int) == 0) = false := by simp; omega
      have HBOX := hid hbox
      have F2 := hid f2
      have HX := hid hx
      have G1 := hid g1
      have HNO := hid hno
      have HRES := hid hres
      have P1 := hid p1
      have B1 := hid b1
      have HDL := hid hdl
      clear hp hx hno hres hB2 hB4 hBc hbox f2 x1' g1 p1 b1 hdl
      go_wp2_with (at_builtin; refine wp_app rfl _ _ _ _ rfl elU8 how rfl hsrc rfl (by omega) (by omega) ?_; intro v' w2 o1 gg at1; rw [Nat.zero_add, List.nil_append] at o1; obtain ⟨A3, c3', rfl⟩ := OwnR.slice o1; have O1 := hid o1; have A1 := hid at1; have FG := hid (F2.out.then (Fr.of_grown gg) (by simp [Value.ownBlock]) : Fr [] w1 w2); have HBX := hid ((Fr.of_grown gg).blk HBOX.out (by simp [Value.ownBlock])); clear o1 gg at1; have HR2 := hid (FG.out.blk HR1.out (by simp)); have H12 := hid (FG.out.blk H11.out (by simp)); clear c0 c1 c2 c3 c4 y0 y1 y2 y3 y4 d0 d1 d2 x1 x2; obtain ⟨⟨c0, c1, c2, c3, c4⟩, ⟨y0, y1, y2, y3, y4⟩, ⟨d0, d1, d2⟩, x1, x2⟩ := rn_facts H12.out HR2.out; have z0 := blk_cell HBX.out 0; have z1 := blk_cell HBX.out 1; have z2 := blk_cell HBX.out 2; have z3 := blk_cell HBX.out 3; have z4 := blk_cell HBX.out 4; simp at z0 z1 z2 z3 z4)
      refine rn_ret rfl rfl rfl rfl (blk_set5 (w := ((w2.setCell ⟨g, 1, none⟩ (.slice A3 (buf.length - n) c3')).setCell ⟨g, 2, none⟩ (.bool true)).setCell ⟨g, 1, none⟩ (.slice none 0 0)) (blk_set_far (blk_set_far (blk_set_far HR2.out (by show w.heap.size ≠ g; omega) _) (by show w.heap.size ≠ g; omega) _) (by show w.heap.size ≠ g; omega) _) _ _ _ _ _) ?_
      exact rn_close hgl HP.out HCL.out hn2 (F1.out.trans FG.out) H12.out HX.out (G1.out.fr FG.out (by simp)) HNO.out HRES.out P1.out B1.out
    | false =>
      have HCL := hid hcl
      clear hcl
      have hlc : buf.length ≤ c := (row_room (BytW.of_own HC.out.own)).1
      have hBc := BytW.of_own (HC.out.own.fr F1.out (by simp))
      obtain ⟨A2, c2', hcut, hB2, hc2, _⟩ := from_cut hBc hlc n hn2
      obtain ⟨Aq, cq, rfl⟩ := row_slice p1
      obtain ⟨Ab, cb, rfl⟩ := row_slice b1
      have hx : Ext H H' w := ⟨x1'.mono, fun k hk => x1'.old k (by omega)⟩
      have hno : H' g = none := hx.none hgl HC.out.no
      have hres : H' w.heap.size = none := (x1'.old _ hzW).trans (GG.out.none_ge (Nat.le_refl _))
      have f2 : Fr [] w1 ((w1.alloc (.cells #[.string (bs r.m), .string (bs r.p), .slice Aq r.q.length cq, .bool false, .slice Ab r.body.length cb] 32)).alloc (.cells #[] 5)) := ((Fr.refl [] w1).alloc _).alloc _
      have hB4 := hB2.fr f2 (by simp)
      have hsrc := RowR.src (P := Tryz.prog) (tx := 22) (e' := 5) (sz := 1) (by kernel_rfl) hB4 (BytW.good _) (by simp [u8s]) (by omega) (u8s_one _)
      have how : OwnR ((w1.alloc (.cells #[.string (bs r.m), .string (bs r.p), .slice Aq r.q.length cq, .bool false, .slice Ab r.body.length cb] 32)).alloc (.cells #[] 5)) (.slice (some ⟨w1.heap.size + 1, 0, none⟩) 0 0) 5 1 0 [] := ⟨by simp, by omega, .inr ⟨_, 0, 0, #[], rfl, by have := blk_new (w1.alloc (.cells #[.string (bs r.m), .string (bs r.p), .slice Aq r.q.length cq, .bool false, .slice Ab r.body.length cb] 32)) (.cells #[] 5); rwa [World.size_alloc] at this, by omega, by omega, by omega⟩⟩
      have hbox := blk_alloc (blk_new w1 (.cells #[.string (bs r.m), .string (bs r.p), .slice Aq r.q.length cq, .bool false, .slice Ab r.body.length cb] 32)) (.cells #[] 5)
      have hdl : (buf.drop n).length = buf.length - n := by simp
      rw [hdl] at hsrc
      have hn0 : ((n : Int) == 0) = false := by simp; omega
      have HBOX := hid hbox
      have F2 := hid f2
      have HX := hid hx
      have G1 := hid g1
      have HNO := hid hno
      have HRES := hid hres
      have P1 := hid p1
      have B1 := hid b1
      have HDL := hid hdl
      clear hp hx hno hres hB2 hB4 hBc hbox f2 x1' g1 p1 b1 hdl
      go_wp2_with (at_builtin; refine wp_app rfl _ _ _ _ rfl elU8 how rfl hsrc rfl (by omega) (by omega) ?_; intro v' w2 o1 gg at1; rw [Nat.zero_add, List.nil_append] at o1; obtain ⟨A3, c3', rfl⟩ := OwnR.slice o1; have O1 := hid o1; have A1 := hid at1; have FG := hid (F2.out.then (Fr.of_grown gg) (by simp [Value.ownBlock]) : Fr [] w1 w2); have HBX := hid ((Fr.of_grown gg).blk HBOX.out (by simp [Value.ownBlock])); clear o1 gg at1; have HR2 := hid (FG.out.blk HR1.out (by simp)); have H12 := hid (FG.out.blk H11.out (by simp)); clear c0 c1 c2 c3 c4 y0 y1 y2 y3 y4 d0 d1 d2 x1 x2; obtain ⟨⟨c0, c1, c2, c3, c4⟩, ⟨y0, y1, y2, y3, y4⟩, ⟨d0, d1, d2⟩, x1, x2⟩ := rn_facts H12.out HR2.out; have z0 := blk_cell HBX.out 0; have z1 := blk_cell HBX.out 1; have z2 := blk_cell HBX.out 2; have z3 := blk_cell HBX.out 3; have z4 := blk_cell HBX.out 4; simp at z0 z1 z2 z3 z4)
      refine rn_ret rfl rfl rfl rfl (blk_set5 (w := w2.setCell ⟨g, 1, none⟩ (.slice A3 (buf.length - n) c3')) (blk_set_far HR2.out (by show w.heap.size ≠ g; omega) _) _ _ _ _ _) ?_
      exact rn_done hgl HP.out HCL.out hn2 (F1.out.trans FG.out) H12.out HX.out (G1.out.fr FG.out (by simp)) HNO.out HRES.out P1.out B1.out (by rw [HDL.out]; exact O1.out) (fun k hk => by
        rcases A1.out with e | ⟨k', e, hge⟩
        · rw [e] at hk; cases hk; exact ⟨by show w.heap.size < w1.heap.size + 1; omega, G1.out.none_ge (by show w1.heap.size ≤ w1.heap.size + 1; omega)⟩
        · rw [e] at hk; cases hk; simp at hge; exact ⟨by omega, G1.out.none_ge (by omega)⟩)

end Go.Proofs.YtpofpgejhnlfjaaGreatDoor
