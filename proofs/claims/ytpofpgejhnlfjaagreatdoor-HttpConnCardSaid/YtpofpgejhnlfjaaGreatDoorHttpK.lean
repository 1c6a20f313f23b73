/- Next. -/
import Derived.Test.YtpofpgejhnlfjaaGreatDoorHttpJ
import Derived.Deep.LoopGhost
import Derived.Laws.ResultCell
set_option linter.unusedVariables false
set_option linter.unusedSimpArgs false
set_option maxRecDepth 100000
namespace Go.Proofs.YtpofpgejhnlfjaaGreatDoor
open Go Go.RowKit Bpm Bph

def reqZ : Array Value := #[.string ⟨#[]⟩, .string ⟨#[]⟩, .slice none 0 0, .bool false, .slice none 0 0]
def NxR (H0 : RO) (w : World) (g : Nat) (bv : Value) (buf : List UInt8) (k : Nat) (s : Value) (W : World) : Prop := ∃ m, m ≤ k ∧ NxS H0 w g bv buf s W m
def NextPost (H : RO) (w : World) (g : Nat) (bv : Value) (buf : List UInt8) (e : Ending) (w' : World) : Prop :=
  Fr [g] w w' ∧ match parse buf with
  | .more => e = .returned (.tuple #[.agg reqZ, .int .i64 0, .bool false]) ∧ ConnAt w' g bv false
  | .fault st => st ≠ 0 ∧ e = .returned (.tuple #[.agg reqZ, .int .i64 st, .bool true]) ∧ ConnAt w' g bv true
  | .done r n => ∃ q bd bv' H', e = .returned (.tuple #[.agg #[.string (bs r.m), .string (bs r.p), q, .bool r.close, bd], .int .i64 0, .bool true]) ∧ n ≤ buf.length ∧
      Ext H H' w ∧ GoodH H' w' ∧ ParR H' q r.q ∧ BytR H' bd r.body ∧ ConnAt w' g bv' r.close ∧ OwnR w' bv' 5 1 (buf.drop n).length (u8s (buf.drop n)) ∧ bv'.ownBlock = bv.ownBlock
theorem next_ret {Q : Ending → World → Prop} {a : Act} {w' : World} {rb : Nat} {st b : Value} {v0 v1 v2 v3 v4 : Value} {fr : Nat × Nat} (hd : a.defers = []) (h2 : a.tmps.getD 2 undef = .pointer (some ⟨rb, 0, none⟩)) (h3 : a.tmps.getD 3 undef = st) (h4 : a.tmps.getD 4 undef = b)
    (h : w'.heap[rb]? = some (.cells #[v0, v1, v2, v3, v4] 32 fr)) (hQ : Q (.returned (.tuple #[.agg #[v0, v1, v2, v3, v4], st, b])) w') : bodyPost Tryz.prog Tryz.f10 Q .ret a w' := by
  have q0 := blk_cell h 0
  have q1 := blk_cell h 1
  have q2 := blk_cell h 2
  have q3 := blk_cell h 3
  have q4 := blk_cell h 4
  simp at q0 q1 q2 q3 q4
  refine bodyPost_ret (v := .tuple #[.agg #[v0, v1, v2, v3, v4], st, b]) ?_ hd hQ
  rw [Array.getD_eq_getD_getElem?] at h2 h3 h4
  simp only [results, Tryz.results10]
  simp [h2, h3, h4, go_sem, q0, q1, q2, q3, q4]
theorem next_over (w : World) (g : Nat) (bv : Value) (h : ConnAt w g bv true) :
    Calls Tryz.prog 10 #[.pointer (some ⟨g, 0, none⟩)] w fun e w' => e = .returned (.tuple #[.agg reqZ, .int .i64 0, .bool false]) ∧ Fr [] w w' := by
  have c2 := blk_cell h 2
  simp at c2
  have hh := hid h
  clear h
  have h' := (Fr.alloc (Fr.refl [] w) (.cells reqZ 32)).blk hh.out (by simp)
  have c2' := blk_cell h' 2
  simp [reqZ] at c2'
  clear h'
  go_enter Tryz.func10, Tryz.ntmps10
  go_wp2_with (go_at_call 34; refine (none_ok _ g bv true ((Fr.alloc (Fr.refl [] w) _).blk hh.out (by simp))).mono ?_; rintro e w' ⟨rfl, rfl⟩)
  exact next_ret rfl rfl rfl rfl (blk_new w _) ⟨rfl, (Fr.refl [] w).alloc _⟩

def set5 (w : World) (g : Nat) (b0 b1 b2 b3 b4 : Value) : World := ((((w.setCell ⟨g, 0, none⟩ b0).setCell ⟨g, 1, none⟩ b1).setCell ⟨g, 2, none⟩ b2).setCell ⟨g, 3, none⟩ b3).setCell ⟨g, 4, none⟩ b4
theorem blk_set5 {w : World} {g : Nat} {a0 a1 a2 a3 a4 : Value} {e : TypeId} {fr : Nat × Nat} (h : w.heap[g]? = some (.cells #[a0, a1, a2, a3, a4] e fr)) (b0 b1 b2 b3 b4 : Value) :
    (set5 w g b0 b1 b2 b3 b4).heap[g]? = some (.cells #[b0, b1, b2, b3, b4] e fr) :=
  blk_set (blk_set (blk_set (blk_set (blk_set h 0 b0) 1 b1) 2 b2) 3 b3) 4 b4
theorem blk_drew {w : World} {g : Nat} {o : Obj} (h : w.heap[g]? = some o) : w.drew.heap[g]? = some o := h
theorem fr_set5 {S : List Nat} {a w : World} (h : Fr S a w) {g : Nat} (hg : g ∈ S ∨ a.heap.size ≤ g) (b0 b1 b2 b3 b4 : Value) :
    Fr S a (set5 w g b0 b1 b2 b3 b4) :=
  ((((h.setCell hg b0).setCell hg b1).setCell hg b2).setCell hg b3).setCell hg b4
theorem more_end {H : RO} {w wr : World} {g : Nat} {bv : Value} {buf : List UInt8} (hgl : g < w.heap.size) (HP : parse buf = .more) (fw : Fr [] w wr) (hc : ConnAt wr g bv false) (b0 b1 b2 b3 b4 : Value) :
    NextPost H w g bv buf (.returned (.tuple #[.agg reqZ, .int .i64 0, .bool false])) (set5 wr w.heap.size b0 b1 b2 b3 b4) := by
  refine ⟨fr_set5 (Fr.mono fw (by simp)) (.inr (Nat.le_refl _)) _ _ _ _ _, ?_⟩
  rw [HP]
  exact ⟨rfl, (fr_set5 (Fr.refl [w.heap.size] wr) (.inl (by simp)) _ _ _ _ _).blk hc (by simp; omega)⟩
theorem fault_end {H : RO} {w wr : World} {g : Nat} {bv : Value} {buf : List UInt8} {st : Int} (hgl : g < w.heap.size) (HP : parse buf = .fault st) (h0 : st ≠ 0) (fw : Fr [] w wr) (hc : ConnAt wr g bv false) (b0 b1 b2 b3 b4 : Value) :
    NextPost H w g bv buf (.returned (.tuple #[.agg reqZ, .int .i64 st, .bool true])) (set5 (wr.setCell ⟨g, 2, none⟩ (.bool true)) w.heap.size b0 b1 b2 b3 b4).drew := by
  refine ⟨(fr_set5 ((Fr.mono fw (by simp)).setCell (.inl (by simp)) _) (.inr (Nat.le_refl _)) _ _ _ _ _).drew, ?_⟩
  rw [HP]
  have hc2 : ConnAt (wr.setCell ⟨g, 2, none⟩ (.bool true)) g bv true := blk_set hc 2 _
  exact ⟨h0, rfl, (fr_set5 (Fr.refl [w.heap.size] (wr.setCell ⟨g, 2, none⟩ (.bool true))) (.inl (by simp)) b0 b1 b2 b3 b4).drew.blk hc2 (by simp; omega)⟩
theorem done_end {H H' : RO} {w wr : World} {g : Nat} {bv v q bd : Value} {buf : List UInt8} {r : Req} {n : Nat} (hgl : g < w.heap.size) (HP : parse buf = .done r n) (hn : n ≤ buf.length) (fw : Fr [] w wr) (hc : ConnAt wr g bv false)
    (hx : Ext H H' w) (hG : GoodH H' wr) (hno : H' g = none) (hrb : H' w.heap.size = none) (hq : ParR H' q r.q) (hb : BytR H' bd r.body) (ho : OwnR wr v 5 1 (buf.drop n).length (u8s (buf.drop n))) (hk : v.ownBlock = bv.ownBlock) (hfar : ∀ k, bv.ownBlock = some k → k ≠ g ∧ k ≠ w.heap.size) :
    NextPost H w g bv buf (.returned (.tuple #[.agg #[.string (bs r.m), .string (bs r.p), q, .bool r.close, bd], .int .i64 0, .bool true])) (set5 ((wr.setCell ⟨g, 1, none⟩ v).setCell ⟨g, 2, none⟩ (.bool r.close)) w.heap.size (.string (bs r.m)) (.string (bs r.p)) q (.bool r.close) bd).drew := by
  have hF : Fr [g, w.heap.size] wr (set5 ((wr.setCell ⟨g, 1, none⟩ v).setCell ⟨g, 2, none⟩ (.bool r.close)) w.heap.size (.string (bs r.m)) (.string (bs r.p)) q (.bool r.close) bd).drew :=
    (fr_set5 (((Fr.refl _ wr).setCell (.inl (by simp)) _).setCell (.inl (by simp)) _) (.inl (by simp)) _ _ _ _ _).drew
  refine ⟨(fr_set5 (((Fr.mono fw (by simp)).setCell (.inl (by simp)) _).setCell (.inl (by simp)) _) (.inr (Nat.le_refl _)) _ _ _ _ _).drew, ?_⟩
  rw [HP]
  have hc2 : ConnAt ((wr.setCell ⟨g, 1, none⟩ v).setCell ⟨g, 2, none⟩ (.bool r.close)) g v r.close := blk_set (blk_set hc 1 _) 2 _
  refine ⟨q, bd, v, H', rfl, hn, hx, hG.fr hF (fun x hx => ?_), hq, hb, (fr_set5 (Fr.refl [w.heap.size] ((wr.setCell ⟨g, 1, none⟩ v).setCell ⟨g, 2, none⟩ (.bool r.close))) (.inl (by simp)) _ _ _ _ _).drew.blk hc2 (by simp; omega), ho.fr hF (fun k hk' hx => ?_), hk⟩
  · simp at hx
    rcases hx with rfl | rfl
    · exact hno
    · exact hrb
  · rw [hk] at hk'
    have := hfar k hk'
    simp at hx
    omega
theorem u8s_drop (l : List UInt8) (k : Nat) : u8s (l.drop k) = (u8s l).drop (k * 1) := by simp [u8s, List.map_drop]
theorem own_cut {w : World} {A : Option Addr} {c : Nat} {l : List UInt8} (h : OwnR w (.slice A l.length c) 5 1 l.length (u8s l)) (k : Nat) (hk : k ≤ l.length) :
    ∃ A' c', (∀ W : World, (Instr.slice 22 (.slice A l.length c) (some (.int .i64 k)) none none).run Tryz.prog W = .ok (.slice A' (l.length - k) c') W) ∧ OwnR w (.slice A' (l.length - k) c') 5 1 (l.drop k).length (u8s (l.drop k)) ∧
      (Value.slice A' (l.length - k) c').ownBlock = (Value.slice A l.length c).ownBlock := by
  refine ⟨_, _, fun W => from_run elB A l.length c k hk W, ?_, cut_block _ _ _ _ _ _ _⟩
  have := h.from k hk
  rw [List.length_drop, show u8s (l.drop k) = (u8s l).drop (k * 1) by simp [u8s, List.map_drop]]
  exact this
theorem fn_neq (K : Nat) (W : World) : (binOp .neq 67 (.func (.func K) #[] #[]) .nilFunc).run Tryz.prog W = .ok (.bool true) W := rfl
theorem nil_neq (W : World) : (binOp .neq 67 .nilFunc .nilFunc).run Tryz.prog W = .ok (.bool false) W := rfl
/-- The world in which a request is read, and what it holds. -/
structure NxW (H : RO) (w w1 : World) (g : Nat) (bv : Value) (buf : List UInt8) : Prop where
  size : w1.heap.size = w.heap.size + 2
  fr : Fr [] w w1
  req : w1.heap[w.heap.size]? = some (.cells reqZ 32 (0, 0))
  nxe : NxE H w1 (w.heap.size + 1) bv buf
  nxc : NxC H w1 (w.heap.size + 1) bv Rd0 H w1
theorem nx_start (H : RO) (w : World) (g : Nat) (bv : Value) (buf : List UInt8) (hE : Env H) (hG : GoodH H w) (hb : OwnR w bv 5 1 buf.length (u8s buf)) (hs : buf.length ≤ 2000000) :
    NxW H w ((w.alloc (.cells reqZ 32)).alloc (.cells (Rd0.cells bv) 65)) g bv buf := by
  have f : Fr [] w ((w.alloc (.cells reqZ 32)).alloc (.cells (Rd0.cells bv) 65)) := ((Fr.refl [] w).alloc _).alloc _
  have hr : RdAt ((w.alloc (.cells reqZ 32)).alloc (.cells (Rd0.cells bv) 65)) (w.heap.size + 1) bv Rd0 := by
    have := blk_new (w.alloc (.cells reqZ 32)) (.cells (Rd0.cells bv) 65)
    simpa [RdAt] using this
  refine ⟨by simp, f, blk_alloc (blk_new w _) _, ⟨hE, by simp, hG.none_ge (by omega), ?_, fun k hk => ?_, hs⟩, ⟨Ext.refl _ _, hG.fr f (by simp), Fr.refl _ _, hr⟩⟩
  · exact BytW.of_own (hb.fr f (by simp))
  · have := hb.lt hk
    omega

set_option maxHeartbeats 4000000 in
theorem next_ok (H : RO) (w : World) (g : Nat) (bv : Value) (buf : List UInt8) (hE : Env H) (hG : GoodH H w) (hno : H g = none) (h : ConnAt w g bv false) (hb : OwnR w bv 5 1 buf.length (u8s buf)) (hf : ∀ k, bv.ownBlock = some k → k ≠ g) (hs : buf.length ≤ 2000000) :
    Calls Tryz.prog 10 #[.pointer (some ⟨g, 0, none⟩)] w (NextPost H w g bv buf) := by
  have f1 : Fr [] w (w.alloc (.cells reqZ 32)) := (Fr.refl [] w).alloc _
  have h1 := f1.blk h (by simp)
  have c1 := blk_cell h1 1
  have c2 := blk_cell h1 2
  simp [reqZ] at c1 c2
  have hgl := blk_lt h
  obtain ⟨A, c, rfl⟩ := OwnR.slice hb
  have hst := nx_start H w g _ buf hE hG hb hs
  have hh := hid h
  have hB := hid hb
  have hg := hid hG
  have F1 := hid f1
  clear h hb hG h1 f1
  go_enter Tryz.func10, Tryz.ntmps10
  go_wp2_with (go_at_call 34; refine (none_ok _ g _ false ((Fr.alloc (Fr.refl [] w) _).blk hh.out (by simp))).mono ?_; rintro e w' ⟨rfl, rfl⟩)
  simp only [Rd.cells, Rd0, reqZ, bs, List.toArray] at hst
  clear c1 c2
  generalize ((w.alloc _).alloc _) = w1 at hst ⊢
  have HS := hid hst
  clear hst
  have fn := fn_neq
  have fz := nil_neq
  go_loopg [6] (buf.length + 3) (fun k s wr => NxR H w1 (w.heap.size + 1) (.slice A buf.length c) buf k s wr)
  case atStart => exact ⟨_, Nat.le_refl _, _, _, HS.out.nxc, .inl ⟨rfl, rfl, rfl⟩⟩
  case round =>
    obtain ⟨m, hm, y, H', hC, hP⟩ := hrel
    rcases hP with ⟨rfl, rfl, rfl⟩ | ⟨rfl, rfl, hhd, qs, hI, hp⟩ | ⟨rfl, rfl, qs, hI, hp⟩ | ⟨rfl, rfl, hfin⟩
    · simp only [sFn]
      go_wp2_with (go_at_call 35; refine (start_ok H H' w1 wr (w.heap.size + 1) _ buf HS.out.nxe hC).mono ?_; rintro e wr' ⟨s', m', rfl, hS, hlt⟩)
      go_roundg m'
      case measure => omega
      case rel => exact ⟨_, Nat.le_refl _, hS⟩
    · simp only [sFn]
      go_wp2_with (go_at_call 67; refine (header_ok H H' w1 wr (w.heap.size + 1) _ buf y qs HS.out.nxe hC hI hhd hp).mono ?_; rintro e wr' ⟨s', m', rfl, hS, hlt⟩)
      go_roundg m'
      case measure => omega
      case rel => exact ⟨_, Nat.le_refl _, hS⟩
    · simp only [sFn]
      go_wp2_with (go_at_call 91; refine (body_ok H H' w1 wr (w.heap.size + 1) _ buf y qs HS.out.nxe hC hI hp).mono ?_; rintro e wr' ⟨s', m', rfl, hS, hlt⟩)
      go_roundg m'
      case measure => omega
      case rel => exact ⟨_, Nat.le_refl _, hS⟩
    · have hfw : Fr [] w wr := (HS.out.fr.then hC.fr (by simp))
      have hcn := hfw.blk hh.out (by simp)
      have hrq := hC.fr.blk HS.out.req (by simp)
      have n1 := blk_cell hcn 1
      have n2 := blk_cell hcn 2
      have m1 := blk_free hcn 1
      have m2 := blk_free hcn 2
      simp at n1 n2
      have q0 := blk_cell hrq 0
      have q1 := blk_cell hrq 1
      have q2 := blk_cell hrq 2
      have q3 := blk_cell hrq 3
      have q4 := blk_cell hrq 4
      simp [reqZ] at q0 q1 q2 q3 q4
      have z0 := blk_free hrq 0
      have z1 := blk_free hrq 1
      have z2 := blk_free hrq 2
      have z3 := blk_free hrq 3
      have z4 := blk_free hrq 4
      have x1 := blk_cell hC.rd 1
      have x2 := blk_cell hC.rd 2
      have x3 := blk_cell hC.rd 3
      have x4 := blk_cell hC.rd 4
      have x5 := blk_cell hC.rd 5
      have x6 := blk_cell hC.rd 6
      have x9 := blk_cell hC.rd 9
      have x10 := blk_cell hC.rd 10
      simp [Rd.cells] at x1 x2 x3 x4 x5 x6 x9 x10
      have CC := hid hC
      have CN := hid hcn
      have RQ := hid hrq
      have FW := hid hfw
      clear hC hcn hrq hfw
      cases hp : parse buf with
      | more =>
        have HP := hid hp
        unfold Fin_ at hfin
        rw [hp] at hfin
        obtain ⟨hs0, hw0⟩ := hfin
        rw [hs0] at x9
        rw [hw0] at x10
        clear hp
        go_wp2
        refine next_ret rfl rfl rfl rfl (blk_set5 (w := wr) RQ.out _ _ _ _ _) ?_
        exact more_end hgl HP.out FW.out CN.out _ _ _ _ _
      | fault st =>
        have HP := hid hp
        unfold Fin_ at hfin
        rw [hp] at hfin
        obtain ⟨hs0, hw0⟩ := hfin
        rw [hs0] at x9
        clear hp
        go_wp2
        go_region
        all_goals go_wp2
        all_goals refine next_ret rfl rfl rfl rfl (blk_drew (blk_set5 (w := wr.setCell ⟨g, 2, none⟩ (.bool true)) (blk_set_far (w := wr) (p := ⟨g, 2, none⟩) RQ.out (by simp; omega) (.bool true)) _ _ _ _ _)) ?_
        all_goals exact fault_end hgl HP.out hw0 FW.out CN.out _ _ _ _ _
      | done r n =>
        have HP := hid hp
        unfold Fin_ at hfin
        rw [hp] at hfin
        obtain ⟨hs0, hw0, ha0, hn0, hm0, hp0, hc0, hq0, hb0⟩ := hfin
        rw [hs0] at x9
        rw [hw0] at x10
        obtain ⟨yat, ym, yp, yq, ycl, ybd, yhd, yln, yst, ywh⟩ := y
        simp only at hs0 hw0 ha0 hm0 hp0 hc0 hq0 hb0 x1 x2 x3 x4 x5 x6 x9 x10
        subst hs0 hw0 ha0 hm0 hp0 hc0
        have hO := hid ((hB.out.fr FW.out (by simp)).from yat hn0)
        have hQ := hid hq0
        have hBd := hid hb0
        obtain ⟨Aq, cq, rfl⟩ := row_slice hq0
        obtain ⟨Ab, cb, rfl⟩ := row_slice hb0
        have hx : Ext H H' w := ⟨CC.out.ext.mono, fun k hk => CC.out.ext.old k (by have := HS.out.size; omega)⟩
        have HX := hid hx
        have hno' := hid (hx.none hgl hno)
        have hrb' := hid ((CC.out.ext.old w.heap.size (by have := HS.out.size; omega)).trans (hg.out.none_ge (Nat.le_refl _)))
        have hfar := hid (show ∀ k, (Value.slice A buf.length c).ownBlock = some k → k ≠ g ∧ k ≠ w.heap.size from fun k hk => ⟨hf k hk, by have := hB.out.lt hk; omega⟩)
        clear hp hq0 hb0 hx hf
        by_cases hcn : c = yat
        · subst hcn
          have hO2 := hid (show OwnR wr (.slice A (buf.length - c) 0) 5 1 (buf.drop c).length (u8s (buf.drop c)) by
            have := hO.out
            rw [if_pos rfl, Nat.sub_self] at this
            rw [List.length_drop, u8s_drop]
            exact this)
          have hbk := hid (show (Value.slice A (buf.length - c) 0).ownBlock = (Value.slice A buf.length c).ownBlock by cases A <;> rfl)
          go_wp2
          go_region_with (fail)
          all_goals go_wp2
          all_goals refine next_ret rfl rfl rfl rfl (blk_drew (blk_set5 (w := (wr.setCell ⟨g, 1, none⟩ (.slice A (buf.length - c) 0)).setCell ⟨g, 2, none⟩ (.bool r.close)) (blk_set_far (w := wr.setCell ⟨g, 1, none⟩ (.slice A (buf.length - c) 0)) (p := ⟨g, 2, none⟩) (blk_set_far (w := wr) (p := ⟨g, 1, none⟩) RQ.out (by simp; omega) _) (by simp; omega) (.bool r.close)) _ _ _ _ _)) ?_
          all_goals exact done_end hgl HP.out hn0 FW.out CN.out HX.out CC.out.good hno'.out hrb'.out hQ.out hBd.out hO2.out hbk.out hfar.out
        · have hO2 := hid (show OwnR wr (.slice (A.map (fun x => x.add yat)) (buf.length - yat) (c - yat)) 5 1 (buf.drop yat).length (u8s (buf.drop yat)) by
            have := hO.out
            rw [if_neg hcn, Nat.mul_one] at this
            rw [List.length_drop, u8s_drop, Nat.mul_one]
            exact this)
          have hbk := hid (show (Value.slice (A.map (fun x => x.add yat)) (buf.length - yat) (c - yat)).ownBlock = (Value.slice A buf.length c).ownBlock by
            have := cut_block A buf.length c yat yat (buf.length - yat) (c - yat)
            rw [if_neg hcn] at this
            exact this)
          go_wp2
          go_region_with (fail)
          all_goals go_wp2
          all_goals refine next_ret rfl rfl rfl rfl (blk_drew (blk_set5 (w := (wr.setCell ⟨g, 1, none⟩ (.slice (A.map (fun x => x.add yat)) (buf.length - yat) (c - yat))).setCell ⟨g, 2, none⟩ (.bool r.close)) (blk_set_far (w := wr.setCell ⟨g, 1, none⟩ (.slice (A.map (fun x => x.add yat)) (buf.length - yat) (c - yat))) (p := ⟨g, 2, none⟩) (blk_set_far (w := wr) (p := ⟨g, 1, none⟩) RQ.out (by simp; omega) _) (by simp; omega) (.bool r.close)) _ _ _ _ _)) ?_
          all_goals exact done_end hgl HP.out hn0 FW.out CN.out HX.out CC.out.good hno'.out hrb'.out hQ.out hBd.out hO2.out hbk.out hfar.out
end Go.Proofs.YtpofpgejhnlfjaaGreatDoor
