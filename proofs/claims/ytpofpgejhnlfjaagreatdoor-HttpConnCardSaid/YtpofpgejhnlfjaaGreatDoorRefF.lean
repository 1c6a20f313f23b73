/- The walk of the reference's 'read'. -/
import Derived.Test.YtpofpgejhnlfjaaGreatDoorRefE
set_option linter.unusedVariables false
set_option linter.unusedSimpArgs false
set_option maxRecDepth 100000
namespace Go.Proofs.YtpofpgejhnlfjaaGreatDoor
open Go Go.RowKit Bpm Bph

theorem rparse_got {buf s : List UInt8} (hl : lineS buf = .got s) : parse buf = (startS s).elim (.fault 400) (fun r => hdrs buf (s.length + 2) 0 (-1) r) := by
  unfold parse
  rw [hl]
  simp only
  cases startS s <;> rfl
theorem str_eqD (v l : List UInt8) : ((bs v).toList == l) = decide (v = l) := by
  rw [toList_tl, tl_bs, Bool.eq_iff_iff, beq_iff_eq, decide_eq_true_eq]
theorem te_eq (v : List UInt8) : ((bs v).toList == [116, 114, 97, 110, 115, 102, 101, 114, 45, 101, 110, 99, 111, 100, 105, 110, 103]) = decide (v = hTE) := str_eqD v hTE
theorem cl_eq (v : List UInt8) : ((bs v).toList == [99, 111, 110, 116, 101, 110, 116, 45, 108, 101, 110, 103, 116, 104]) = decide (v = hCL) := str_eqD v hCL
theorem co_eq (v : List UInt8) : ((bs v).toList == [99, 111, 110, 110, 101, 99, 116, 105, 111, 110]) = decide (v = hCO) := str_eqD v hCO
theorem close_eq (v : List UInt8) : ((bs v).toList == [99, 108, 111, 115, 101]) = decide (v = hClose) := str_eqD v hClose
def ReadPost (H : RO) (w : World) (buf : List UInt8) (e : Ending) (w' : World) : Prop :=
  Fr [] w w' ∧ match parse buf with
  | .more => e = .returned (.tuple #[.agg reqZ, .int .i64 0, .int .i64 0])
  | .fault st => st ≠ 0 ∧ e = .returned (.tuple #[.agg reqZ, .int .i64 0, .int .i64 st])
  | .done r n => ∃ q bd H', e = .returned (.tuple #[.agg #[.string (bs r.m), .string (bs r.p), q, .bool r.close, bd], .int .i64 n, .int .i64 0]) ∧ 1 ≤ n ∧ n ≤ buf.length ∧ Ext H H' w ∧ GoodH H' w' ∧ ParR H' q r.q ∧ BytR H' bd r.body
theorem rd_fault {H : RO} {w w' : World} {buf : List UInt8} {st : Int} (h : parse buf = .fault st) (h0 : st ≠ 0) (f : Fr [] w w') : ReadPost H w buf (.returned (.tuple #[.agg #[.string ⟨#[]⟩, .string ⟨#[]⟩, .slice none 0 0, .bool false, .slice none 0 0], .int .i64 0, .int .i64 st])) w' := ⟨f, by rw [h]; exact ⟨h0, rfl⟩⟩
theorem rd_more {H : RO} {w w' : World} {buf : List UInt8} (h : parse buf = .more) (f : Fr [] w w') : ReadPost H w buf (.returned (.tuple #[.agg #[.string ⟨#[]⟩, .string ⟨#[]⟩, .slice none 0 0, .bool false, .slice none 0 0], .int .i64 0, .int .i64 0])) w' := ⟨f, by rw [h]; rfl⟩
theorem rd_ret {Q : Ending → World → Prop} {a : Act} {w' : World} {rb : Nat} {b c : Value} {v0 v1 v2 v3 v4 : Value} {fr : Nat × Nat} (hd : a.defers = []) (h2 : a.tmps.getD 2 undef = .pointer (some ⟨rb, 0, none⟩)) (h3 : a.tmps.getD 3 undef = b) (h4 : a.tmps.getD 4 undef = c)
    (h : w'.heap[rb]? = some (.cells #[v0, v1, v2, v3, v4] 32 fr)) (hQ : Q (.returned (.tuple #[.agg #[v0, v1, v2, v3, v4], b, c])) w') : bodyPost Tryz.prog Tryz.f37 Q .ret a w' := by
  have q0 := blk_cell h 0
  have q1 := blk_cell h 1
  have q2 := blk_cell h 2
  have q3 := blk_cell h 3
  have q4 := blk_cell h 4
  simp at q0 q1 q2 q3 q4
  refine bodyPost_ret (v := .tuple #[.agg #[v0, v1, v2, v3, v4], b, c]) ?_ hd hQ
  rw [Array.getD_eq_getD_getElem?] at h2 h3 h4
  simp only [results, Tryz.results37]
  simp [h2, h3, h4, go_sem, q0, q1, q2, q3, q4]
/-- What 'line' tells, case by case. -/
theorem rline_more (w : World) (v : Value) (l : List UInt8) (h : BytW w v l) (hl : l.length ≤ 2000000) (e : lineS l = .more) : Calls Tryz.prog 68 #[v] w fun e w' => e = .returned (.tuple #[.string ⟨#[]⟩, .int .i64 0]) ∧ w = w' :=
  (rline_ok w v l h hl).mono fun e' w' ⟨h1, h2⟩ => ⟨by rw [h1, refLine_more e]; rfl, h2⟩
theorem rline_got (w : World) (v : Value) (l s : List UInt8) (h : BytW w v l) (hl : l.length ≤ 2000000) (e : lineS l = .got s) : Calls Tryz.prog 68 #[v] w fun e w' => e = .returned (.tuple #[.string (bs s), .int .i64 ((s.length : Int) + 2)]) ∧ w = w' :=
  (rline_ok w v l h hl).mono fun e' w' ⟨h1, h2⟩ => ⟨by rw [h1, (refLine_got e).1], h2⟩
theorem rline_ref (w : World) (v : Value) (l s : List UInt8) (n : Int) (h : BytW w v l) (hl : l.length ≤ 2000000) (e : refLine l = (s, n)) : Calls Tryz.prog 68 #[v] w fun e w' => e = .returned (.tuple #[.string (bs s), .int .i64 n]) ∧ w = w' :=
  (rline_ok w v l h hl).mono fun e' w' ⟨h1, h2⟩ => ⟨by rw [h1, e], h2⟩

/-- The memory of 'read' while headers are read: the result's block, the request's block g. -/
structure RdB (H : RO) (w : World) (g : Nat) (r : Req) (q : Value) (H' : RO) (wr : World) : Prop where
  fr : Fr [] w wr
  res : wr.heap[w.heap.size]? = some (.cells #[.string ⟨#[]⟩, .string ⟨#[]⟩, .slice none 0 0, .bool false, .slice none 0 0] 32 (0, 0))
  blk : wr.heap[g]? = some (.cells #[.string (bs r.m), .string (bs r.p), q, .bool r.close, .slice none 0 0] 32 (0, 0))
  gt : w.heap.size < g
  ext : Ext H H' w
  good : GoodH H' wr
  no : H' g = none
  nores : H' w.heap.size = none
  par : ParR H' q r.q
theorem RdB.go {H : RO} {w : World} {g : Nat} {r : Req} {q : Value} {H' : RO} {wr w2 : World} (h : RdB H w g r q H' wr) (f : Fr [] wr w2) : RdB H w g r q H' w2 :=
  ⟨h.fr.trans f, f.blk h.res (by simp), f.blk h.blk (by simp), h.gt, h.ext, h.good.fr f (by simp), h.no, h.nores, h.par⟩
theorem RdB.close {H : RO} {w : World} {g : Nat} {r : Req} {q : Value} {H' : RO} {wr : World} (h : RdB H w g r q H' wr) : RdB H w g { r with close := true } q H' (wr.setCell ⟨g, 3, none⟩ (.bool true)) := by
  have f : Fr [g] wr (wr.setCell ⟨g, 3, none⟩ (.bool true)) := (Fr.refl [g] wr).setCell (.inl (by simp)) _
  have hg := h.gt
  exact ⟨h.fr.setCell (.inr (by show w.heap.size ≤ g; omega)) _, f.blk h.res (by simp; omega), blk_set h.blk 3 _, h.gt, h.ext, h.good.fr f (by simp; exact h.no), h.no, h.nores, h.par⟩
/-- What the loop over the headers holds. -/
def RdL (H : RO) (w : World) (buf : List UInt8) (g : Nat) (s6 s9 s10 s11 : Value) (wr : World) : Prop :=
  ∃ (at_ n L : Nat) (tb : Bool) (len : Int) (r : Req) (q : Value) (H' : RO), s6 = .int .i64 at_ ∧ s9 = .int .i64 (L : Int) ∧ s10 = .bool tb ∧ s11 = .int .i64 n ∧ (len.toNat = L ∧ tb = decide (0 ≤ len)) ∧ RdB H w g r q H' wr ∧ 1 ≤ at_ ∧ at_ ≤ buf.length ∧ len ≤ 1000000000 ∧ n ≤ 32 ∧
    parse buf = hdrs buf at_ n len r ∧ r.body = []
theorem hdrS_ok {s : List UInt8} {n : Nat} {len : Int} {close : Bool} (h : hdrOk s) (hn : n < 32) : hdrS s n len close = countS (low (cutB 58 s).1) (trim (cutB 58 s).2.1) len close := by
  obtain ⟨a, b, c, d, e⟩ := h
  unfold hdrS
  rw [if_pos ⟨a, by omega, b, c, e⟩]
theorem hdrS_no {s : List UInt8} {n : Nat} {len : Int} {close : Bool} (hl : s.all isLin = true) (h : ¬ hdrOk s ∨ 32 ≤ n) : hdrS s n len close = none := by
  unfold hdrS
  rw [if_neg]
  rintro ⟨a, b, c, d, e⟩
  rcases h with h | h
  · exact h ⟨a, c, d, hl, e⟩
  · omega
theorem trim_le (l : List UInt8) : (trim l).length ≤ l.length := by
  unfold trim trimL
  refine Nat.le_trans (List.dropWhile_sublist _).length_le ?_
  rw [List.length_reverse]
  refine Nat.le_trans (List.dropWhile_sublist _).length_le ?_
  simp
theorem cnt_te (v : List UInt8) (len : Int) (close : Bool) : countS hTE v len close = none := by
  unfold countS; rw [if_neg (by simp [hCL, hTE]), if_pos rfl]
theorem cnt_else {nm : List UInt8} (v : List UInt8) (len : Int) (close : Bool) (h1 : nm ≠ hTE) (h2 : nm ≠ hCL) (h3 : nm ≠ hCO) : countS nm v len close = some (len, close) := by
  unfold countS; rw [if_neg h2, if_neg h1, if_neg h3]
theorem reqZ_eq : reqZ = #[.string ⟨#[]⟩, .string ⟨#[]⟩, .slice none 0 0, .bool false, .slice none 0 0] := rfl
theorem RdB.facts {H : RO} {w : World} {g : Nat} {r : Req} {q : Value} {H' : RO} {wr : World} (h : RdB H w g r q H' wr) :
    (wr.cell? ⟨w.heap.size, 0, none⟩ = some (.string ⟨#[]⟩) ∧ wr.cell? ⟨w.heap.size, 1, none⟩ = some (.string ⟨#[]⟩) ∧ wr.cell? ⟨w.heap.size, 2, none⟩ = some (.slice none 0 0) ∧ wr.cell? ⟨w.heap.size, 3, none⟩ = some (.bool false) ∧ wr.cell? ⟨w.heap.size, 4, none⟩ = some (.slice none 0 0)) ∧
    (wr.frozen? ⟨w.heap.size, 0, none⟩ = false ∧ wr.frozen? ⟨w.heap.size, 1, none⟩ = false ∧ wr.frozen? ⟨w.heap.size, 2, none⟩ = false ∧ wr.frozen? ⟨w.heap.size, 3, none⟩ = false ∧ wr.frozen? ⟨w.heap.size, 4, none⟩ = false) ∧
    (wr.cell? ⟨g, 0, none⟩ = some (.string (bs r.m)) ∧ wr.cell? ⟨g, 1, none⟩ = some (.string (bs r.p)) ∧ wr.cell? ⟨g, 2, none⟩ = some q ∧ wr.cell? ⟨g, 3, none⟩ = some (.bool r.close) ∧ wr.cell? ⟨g, 4, none⟩ = some (.slice none 0 0)) ∧
    wr.frozen? ⟨g, 3, none⟩ = false ∧ wr.frozen? ⟨g, 4, none⟩ = false := by
  have c0 := blk_cell h.res 0
  have c1 := blk_cell h.res 1
  have c2 := blk_cell h.res 2
  have c3 := blk_cell h.res 3
  have c4 := blk_cell h.res 4
  have d0 := blk_cell h.blk 0
  have d1 := blk_cell h.blk 1
  have d2 := blk_cell h.blk 2
  have d3 := blk_cell h.blk 3
  have d4 := blk_cell h.blk 4
  simp at c0 c1 c2 c3 c4 d0 d1 d2 d3 d4
  exact ⟨⟨c0, c1, c2, c3, c4⟩, ⟨blk_free h.res 0, blk_free h.res 1, blk_free h.res 2, blk_free h.res 3, blk_free h.res 4⟩, ⟨d0, d1, d2, d3, d4⟩, blk_free h.blk 3, blk_free h.blk 4⟩
theorem RdB.fin {H : RO} {w : World} {g : Nat} {r : Req} {q : Value} {H' : RO} {wr : World} (h : RdB H w g r q H' wr) (b0 b1 b2 b3 b4 : Value) : Fr [] w (set5 wr w.heap.size b0 b1 b2 b3 b4) := fr_set5 h.fr (.inr (Nat.le_refl _)) _ _ _ _ _
theorem rd_done {H : RO} {w : World} {g : Nat} {r : Req} {q : Value} {H' : RO} {wr w1 : World} {buf l : List UInt8} {n : Nat} {bd : Value} (h : RdB H w g r q H' wr) (hp : parse buf = .done { r with body := l } n) (h1 : 1 ≤ n) (h2 : n ≤ buf.length) (f : Fr [] wr w1)
    (ho : OwnR w1 bd 5 1 l.length (u8s l)) (hge : ∀ k, bd.ownBlock = some k → wr.heap.size ≤ k) :
    ReadPost H w buf (.returned (.tuple #[.agg #[.string (bs r.m), .string (bs r.p), q, .bool r.close, bd], .int .i64 n, .int .i64 0])) (set5 (w1.setCell ⟨g, 4, none⟩ bd) w.heap.size (.string (bs r.m)) (.string (bs r.p)) q (.bool r.close) bd) := by
  have hg := h.gt
  have hgl := blk_lt h.blk
  have hG1 := h.good.fr f (by simp)
  have hs := f.size
  obtain ⟨H2, g2, x2, r2⟩ := ho.read hG1 (fun k hk => h.good.none_ge (hge k hk)) (w0 := wr) hge
  have hF : Fr [g, w.heap.size] w1 (set5 (w1.setCell ⟨g, 4, none⟩ bd) w.heap.size (.string (bs r.m)) (.string (bs r.p)) q (.bool r.close) bd) :=
    fr_set5 ((Fr.refl _ w1).setCell (.inl (by simp)) _) (.inl (by simp)) _ _ _ _ _
  refine ⟨(h.fr.trans f).then hF (fun x hx => ?_), ?_⟩
  · simp at hx
    right
    rcases hx with rfl | rfl <;> omega
  · rw [hp]
    refine ⟨q, bd, H2, rfl, h1, h2, h.ext.trans x2 h.fr.size, g2.fr hF (fun x hx => ?_), h.par.ext x2, r2⟩
    simp at hx
    rcases hx with rfl | rfl
    · exact x2.none hgl h.no
    · exact x2.none (by omega) h.nores
set_option maxHeartbeats 2000000 in
theorem rread_ok (H : RO) (w : World) (v : Value) (buf : List UInt8) (hG : GoodH H w) (hB : BytW w v buf) (hs : buf.length ≤ 2000000) :
    Calls Tryz.prog 37 #[v] w (ReadPost H w buf) := by
  obtain ⟨A, c, rfl, hlc⟩ := byt_slice hB
  have GG := hid hG
  have BB := hid hB
  have b0 := blk_new w (.cells #[.string ⟨#[]⟩, .string ⟨#[]⟩, .slice none 0 0, .bool false, .slice none 0 0] 32)
  have f0 : Fr [] w (w.alloc (.cells #[.string ⟨#[]⟩, .string ⟨#[]⟩, .slice none 0 0, .bool false, .slice none 0 0] 32)) := (Fr.refl [] w).alloc _
  have z0 := blk_lt b0
  have B0 := hid b0
  have F0 := hid f0
  have hBW := hid (hB.fr f0 (by simp))
  clear hG hB b0 f0
  go_enter Tryz.func37, Tryz.ntmps37
  go_wp2_with fail
  generalize (w.alloc _) = W at B0 F0 hBW z0 ⊢
  have c0 := blk_cell B0.out 0
  have c1 := blk_cell B0.out 1
  have c2 := blk_cell B0.out 2
  have c3 := blk_cell B0.out 3
  have c4 := blk_cell B0.out 4
  simp at c0 c1 c2 c3 c4
  have y0 := blk_free B0.out 0
  have y1 := blk_free B0.out 1
  have y2 := blk_free B0.out 2
  have y3 := blk_free B0.out 3
  have y4 := blk_free B0.out 4
  have FIN := hid (show ∀ b0 b1 b2 b3 b4, Fr [] w (set5 W w.heap.size b0 b1 b2 b3 b4) from fun _ _ _ _ _ => fr_set5 F0.out (.inr (Nat.le_refl _)) _ _ _ _ _)
  cases hl : lineS buf with
  | more =>
    have HP := hid (show parse buf = .more by unfold parse; rw [hl])
    refine (rline_more W _ buf hBW.out hs hl).mono ?_
    rintro e w' ⟨rfl, rfl⟩
    clear hl
    go_wp2_with fail
    refine rd_ret rfl rfl rfl rfl (blk_set5 (w := W) B0.out _ _ _ _ _) ?_
    exact rd_more HP.out (FIN.out _ _ _ _ _)
  | bad =>
    have HP := hid (show parse buf = .fault 400 by unfold parse; rw [hl])
    rcases refLine_bad hl with h | ⟨s, h, hne, hall⟩
    · refine (rline_ref W _ buf _ _ hBW.out hs h).mono ?_
      rintro e w' ⟨rfl, rfl⟩
      clear hl h
      go_wp2_with fail
      refine rd_ret rfl rfl rfl rfl (blk_set5 (w := W) B0.out _ _ _ _ _) ?_
      exact rd_fault HP.out (by decide) (FIN.out _ _ _ _ _)
    · refine (rline_ref W _ buf _ _ hBW.out hs h).mono ?_
      rintro e w' ⟨rfl, rfl⟩
      have hsz : s.length ≤ 4096 := by have := (refLine_le buf).2; rw [h] at this; exact this
      have hF : refFirst s = none := by unfold refFirst; rw [if_neg (by rw [hall]; simp)]
      have hFi : Calls Tryz.prog 69 #[.string (bs s)] W (FiPost H W (tl (bs s))) := rfirst_ok H (bs s) W (by rw [size_bs]; omega) (GG.out.fr F0.out (by simp))
      rw [tl_bs] at hFi
      unfold FiPost at hFi
      rw [hF] at hFi
      clear hl h hF hall
      go_wp2_with fail
      refine hFi.mono ?_
      rintro e w1 ⟨f1, m, rfl⟩
      have B1 := hid (f1.blk B0.out (by simp))
      have zz := blk_lt B1.out
      have F1 := hid (F0.out.trans f1)
      have d0 := blk_cell B1.out 0
      have d1 := blk_cell B1.out 1
      have d2 := blk_cell B1.out 2
      have d3 := blk_cell B1.out 3
      have d4 := blk_cell B1.out 4
      simp at d0 d1 d2 d3 d4
      have x0 := blk_free B1.out 0
      have x1 := blk_free B1.out 1
      have x2 := blk_free B1.out 2
      have x3 := blk_free B1.out 3
      have x4 := blk_free B1.out 4
      clear f1
      go_wp2_with fail
      refine rd_ret rfl rfl rfl rfl (blk_alloc (blk_set5 (w := w1) B1.out _ _ _ _ _) _) ?_
      exact rd_fault HP.out (by decide) ((fr_set5 F1.out (.inr (Nat.le_refl _)) _ _ _ _ _).alloc _)
  | got s =>
    have hsz : s.length ≤ 4096 := (lineS_got hl).2.2.2
    have hlb := (lineS_got hl).1
    have HP := hid (rparse_got hl)
    have hF : refFirst s = startS s := by unfold refFirst; rw [if_pos (lineS_got hl).2.2.1]
    have hFi : Calls Tryz.prog 69 #[.string (bs s)] W (FiPost H W (tl (bs s))) := rfirst_ok H (bs s) W (by rw [size_bs]; omega) (GG.out.fr F0.out (by simp))
    rw [tl_bs] at hFi
    refine (rline_got W _ buf _ hBW.out hs hl).mono ?_
    rintro e w' ⟨rfl, rfl⟩
    unfold FiPost at hFi
    rw [hF] at hFi
    cases hst : startS s with
    | none =>
      have HP2 := hid (show parse buf = .fault 400 by rw [HP.out, hst]; rfl)
      rw [hst] at hFi
      clear hl hF hst
      go_wp2_with fail
      refine hFi.mono ?_
      rintro e w1 ⟨f1, m, rfl⟩
      have B1 := hid (f1.blk B0.out (by simp))
      have zz := blk_lt B1.out
      have F1 := hid (F0.out.trans f1)
      have d0 := blk_cell B1.out 0
      have d1 := blk_cell B1.out 1
      have d2 := blk_cell B1.out 2
      have d3 := blk_cell B1.out 3
      have d4 := blk_cell B1.out 4
      simp at d0 d1 d2 d3 d4
      have x0 := blk_free B1.out 0
      have x1 := blk_free B1.out 1
      have x2 := blk_free B1.out 2
      have x3 := blk_free B1.out 3
      have x4 := blk_free B1.out 4
      clear f1
      go_wp2_with fail
      refine rd_ret rfl rfl rfl rfl (blk_alloc (blk_set5 (w := w1) B1.out _ _ _ _ _) _) ?_
      exact rd_fault HP2.out (by decide) ((fr_set5 F1.out (.inr (Nat.le_refl _)) _ _ _ _ _).alloc _)
    | some r =>
      have HP2 := hid (show parse buf = hdrs buf (s.length + 2) 0 (-1) r by rw [HP.out, hst]; rfl)
      rw [hst] at hFi
      clear hl hF hst HP
      go_wp2_with fail
      refine hFi.mono ?_
      rintro e w1 ⟨f1, q, H', rfl, x1, g1, r1, hcl, hbd⟩
      have hno : H' w.heap.size = none := (x1.old _ z0).trans (GG.out.none_ge (Nat.le_refl _))
      have hz1 := f1.size
      have HB := hid (show RdB H w w1.heap.size r q H' (w1.alloc (.cells #[.string (bs r.m), .string (bs r.p), q, .bool false, .slice none 0 0] 32)) from
        ⟨(F0.out.trans f1).alloc _, blk_alloc (f1.blk B0.out (by simp)) _, by rw [hcl]; exact blk_new w1 _, by omega, ⟨x1.mono, fun k hk => x1.old k (by omega)⟩, g1.fr ((Fr.refl [] w1).alloc _) (by simp), g1.none_ge (Nat.le_refl _), hno, r1⟩)
      have HBD := hid hbd
      obtain ⟨Aq, cq, rfl⟩ := row_slice r1
      clear f1 x1 g1 r1 hcl hbd hno c0 c1 c2 c3 c4 y0 y1 y2 y3 y4
      go_wp2_with fail
      generalize w1.alloc _ = W1 at HB ⊢
      generalize w1.heap.size = g at HB ⊢
      go_loopw [6, 9, 10, 11] (fun s6 s9 s10 s11 wr => RdL H w buf g s6 s9 s10 s11 wr) (fun s6 _ _ _ _ => buf.length - (intOf s6).toNat)
      case atStart => exact ⟨s.length + 2, 0, 0, false, -1, r, _, H', by simp, rfl, rfl, rfl, ⟨rfl, rfl⟩, HB.out, by omega, hlb, by omega, by omega, HP2.out, HBD.out⟩
      case round =>
        obtain ⟨at_, n, L, tb, len, r, q, H', rfl, rfl, rfl, rfl, hlt, hb, ha1, ha2, hln, hn32, hp, hbd⟩ := hrel
        have HLT := hid hlt
        have hL0 : (L : Int) ≤ 1000000000 := by omega
        have HB2 := hid hb
        have HP3 := hid hp
        have HBD2 := hid hbd
        have hBr := BB.out.fr hb.fr (by simp)
        obtain ⟨A', c', hcut, hB2, hc2, _⟩ := from_cut hBr hlc at_ ha2
        obtain ⟨Aq', cq', rfl⟩ := row_slice hb.par
        obtain ⟨⟨c0, c1, c2, c3, c4⟩, ⟨y0, y1, y2, y3, y4⟩, ⟨d0, d1, d2, d3, d4⟩, x3, x4⟩ := hb.facts
        have hd98 : (buf.drop at_).length ≤ 2000000 := by simp; omega
        clear hb hp hbd hBr hlt
        cases hl : lineS (buf.drop at_) with
        | more =>
          have hLn := rline_more wr _ _ hB2 hd98 hl
          have HQ := hid (show parse buf = .more by rw [HP3.out, hdrs_more hl])
          clear hl hd98 hB2
          go_wp2_with fail
          refine hLn.mono ?_
          rintro e w' ⟨rfl, rfl⟩
          go_wp2_with fail
          refine rd_ret rfl rfl rfl rfl (blk_set5 (w := wr) HB2.out.res _ _ _ _ _) ?_
          exact rd_more HQ.out (HB2.out.fin _ _ _ _ _)
        | bad =>
          have HQ := hid (show parse buf = .fault 400 by rw [HP3.out, hdrs_bad hl])
          rcases refLine_bad hl with h | ⟨s, h, hne, hall⟩
          · have hLn := rline_ref wr _ _ _ _ hB2 hd98 h
            clear hl hd98 hB2 h
            go_wp2_with fail
            refine hLn.mono ?_
            rintro e w' ⟨rfl, rfl⟩
            go_wp2_with fail
            refine rd_ret rfl rfl rfl rfl (blk_set5 (w := wr) HB2.out.res _ _ _ _ _) ?_
            exact rd_fault HQ.out (by decide) (HB2.out.fin _ _ _ _ _)
          · have hLn := rline_ref wr _ _ _ _ hB2 hd98 h
            have hsz : s.length ≤ 4096 := by have := (refLine_le (buf.drop at_)).2; rw [h] at this; exact this
            have hsl : s.length + 2 ≤ buf.length - at_ := by have := (refLine_le (buf.drop at_)).1; rw [h] at this; simp at this; omega
            have hHd : Calls Tryz.prog 70 #[.string (bs s)] wr (HdPost wr (tl (bs s))) := rheader_ok (bs s) wr (by rw [size_bs]; omega)
            rw [tl_bs] at hHd
            have hno : ¬ hdrOk s := fun hx => by rw [hx.2.2.2.1] at hall; cases hall
            have e0 := bs_neq hne
            have e1 : (bs s).toList.isEmpty = false := by simpa using e0
            have HNO := hid hno
            clear hl hd98 hB2 h hall hne hno
            go_wp2_with fail
            refine hLn.mono ?_
            rintro e w' ⟨rfl, rfl⟩
            go_wp2_with fail
            refine hHd.mono ?_
            rintro e w2 ⟨f2, ⟨hy, _⟩ | ⟨_, rfl⟩⟩
            · exact absurd hy HNO.out
            · have HB4 := hid (HB2.out.go f2)
              clear f2 c0 c1 c2 c3 c4 y0 y1 y2 y3 y4 d0 d1 d2 d3 d4 x3 x4
              obtain ⟨⟨c0, c1, c2, c3, c4⟩, ⟨y0, y1, y2, y3, y4⟩, _⟩ := HB4.out.facts
              go_wp2_with fail
              refine rd_ret rfl rfl rfl rfl (blk_set5 (w := w2) HB4.out.res _ _ _ _ _) ?_
              exact rd_fault HQ.out (by decide) (HB4.out.fin _ _ _ _ _)
        | got s =>
          have hsz : s.length ≤ 4096 := (lineS_got hl).2.2.2
          have hsl : s.length + 2 ≤ buf.length - at_ := by have := (lineS_got hl).1; simp at this; omega
          have hlin := (lineS_got hl).2.2.1
          by_cases hne : s = []
          · subst hne
            have hLn := rline_ref wr _ _ [] 2 hB2 hd98 (by rw [(refLine_got hl).1]; rfl)
            have HQ := hid (show parse buf = bodyS buf (at_ + 2) len r by rw [HP3.out, hdrs_end hl])
            have e0 : (bs ([] : List UInt8)).toList = [] := bs_isnil rfl
            have hs2 : at_ + 2 ≤ buf.length := by simp at hsl; omega
            have hsl' : 2 ≤ buf.length - at_ := by omega
            clear hl hd98 hB2 hlin hsl hsz
            have hL := HLT.out.1
            by_cases hbig : 262144 < L
            · have HQ2 := hid (show parse buf = .fault 413 by rw [HQ.out]; unfold bodyS; rw [hL, if_pos hbig])
              clear hL
              go_wp2_with fail
              refine hLn.mono ?_
              rintro e w' ⟨rfl, rfl⟩
              go_wp2_with fail
              refine rd_ret rfl rfl rfl rfl (blk_set5 (w := wr) HB2.out.res _ _ _ _ _) ?_
              exact rd_fault HQ2.out (by decide) (HB2.out.fin _ _ _ _ _)
            · by_cases hsh : buf.length < at_ + 2 + L
              · have HQ2 := hid (show parse buf = .more by rw [HQ.out]; unfold bodyS; rw [hL, if_neg hbig, if_pos hsh])
                have hsh' : (buf.length : Int) - ((at_ : Int) + 2) < (L : Int) := by omega
                clear hL hsh
                go_wp2_with fail
                refine hLn.mono ?_
                rintro e w' ⟨rfl, rfl⟩
                go_wp2_with fail
                refine rd_ret rfl rfl rfl rfl (blk_set5 (w := wr) HB2.out.res _ _ _ _ _) ?_
                exact rd_more HQ2.out (HB2.out.fin _ _ _ _ _)
              · have HQ2 := hid (show parse buf = .done { r with body := (buf.drop (at_ + 2)).take L } (at_ + 2 + L) by rw [HQ.out]; unfold bodyS; rw [hL, if_neg hbig, if_neg hsh])
                have hll : ((buf.drop (at_ + 2)).take L).length = L := by simp; omega
                have hBr2 := BB.out.fr HB2.out.fr (by simp)
                obtain ⟨A2, c2', hcut2, hB3, hcc2⟩ := mid_cut hBr2 hlc (at_ + 2) L (by omega)
                have e1 : ((at_ + 2 : Nat) : Int) = (at_ : Int) + 2 := by omega
                have e2 : ((at_ + 2 + L : Nat) : Int) = (at_ : Int) + 2 + (L : Int) := by omega
                rw [e2, e1] at hcut2
                have E2 := hid e2
                clear e1 e2
                have hB4 := hB3.fr ((Fr.refl [] wr).alloc (.cells #[] 5)) (by simp)
                have hsrc := RowR.src (P := Tryz.prog) (tx := 22) (e' := 5) (sz := 1) (by kernel_rfl) hB4 (BytW.good _) (by simp [u8s]) (by omega) (u8s_one _)
                have how : OwnR (wr.alloc (.cells #[] 5)) (.slice (some ⟨wr.heap.size, 0, none⟩) 0 0) 5 1 0 [] := ⟨by simp, by omega, .inr ⟨_, 0, 0, #[], rfl, blk_new wr _, by omega, by omega, by omega⟩⟩
                rw [hll] at hsrc
                have HLL := hid hll
                generalize (buf.drop (at_ + 2)).take L = l at HQ2 hsrc HLL
                have hgt := HB2.out.gt
                have hzw := blk_lt HB2.out.blk
                clear hL hB3 hB4 hBr2 hll
                go_wp2_with fail
                refine hLn.mono ?_
                rintro e w' ⟨rfl, rfl⟩
                go_wp2_with (at_builtin; refine wp_app rfl _ _ _ _ rfl elU8 how rfl hsrc rfl (by omega) (by omega) ?_; intro v' w1 o1 g1 at1; rw [Nat.zero_add, List.nil_append] at o1; obtain ⟨A3, c3', rfl⟩ := OwnR.slice o1; have O1 := hid o1; have A1 := hid at1; have FG := hid ((((Fr.refl [] wr).alloc (.cells #[] 5)).then (Fr.of_grown g1) (by simp [Value.ownBlock])) : Fr [] wr w1); clear o1 g1 at1; have HB4 := hid (HB2.out.go FG.out); clear c0 c1 c2 c3 c4 y0 y1 y2 y3 y4 d0 d1 d2 d3 d4 x3 x4; obtain ⟨⟨c0, c1, c2, c3, c4⟩, ⟨y0, y1, y2, y3, y4⟩, ⟨d0, d1, d2, d3, d4⟩, x3, x4⟩ := HB4.out.facts)
                refine rd_ret rfl rfl rfl rfl (blk_set5 (w := w1.setCell ⟨g, 4, none⟩ (.slice A3 L c3')) (blk_set_far HB4.out.res (by show w.heap.size ≠ g; omega) _) _ _ _ _ _) ?_
                have hdone := rd_done HB2.out HQ2.out (by omega) (by omega) FG.out (bd := .slice A3 L c3') (by rw [HLL.out]; exact O1.out) (fun k hk => by
                  rcases A1.out with e | ⟨k', e, hge⟩
                  · rw [e] at hk; cases hk; exact Nat.le_refl _
                  · rw [e] at hk; cases hk; simp at hge; omega)
                rw [E2.out] at hdone
                exact hdone
          · have hLn := rline_got wr _ _ _ hB2 hd98 hl
            have hHd : Calls Tryz.prog 70 #[.string (bs s)] wr (HdPost wr (tl (bs s))) := rheader_ok (bs s) wr (by rw [size_bs]; omega)
            rw [tl_bs] at hHd
            have e0 := bs_neq hne
            have e1 : (bs s).toList.isEmpty = false := by simpa using e0
            by_cases hok : hdrOk s
            · have hls := cut_len 58 s
              have hvl := trim_le (cutB 58 s).2.1
              by_cases hn : n < 32
              · have HF := hid (fun (hc : countS (low (cutB 58 s).1) (trim (cutB 58 s).2.1) len r.close = none) => (show parse buf = .fault 400 by rw [HP3.out, hdrs_no hl hne (by rw [hdrS_ok hok hn, hc])]))
                have HY := hid (fun (len' : Int) (close' : Bool) (hc : countS (low (cutB 58 s).1) (trim (cutB 58 s).2.1) len r.close = some (len', close')) => (show parse buf = hdrs buf (at_ + s.length + 2) (n + 1) len' { r with close := close' } by rw [HP3.out, hdrs_yes hl hne (by rw [hdrS_ok hok hn, hc])]))
                have HOK := hid hok
                clear hl hd98 hB2 hok hne hlin
                go_wp2_with fail
                refine hLn.mono ?_
                rintro e w' ⟨rfl, rfl⟩
                go_wp2_with fail
                refine hHd.mono ?_
                rintro e w2 ⟨f2, ⟨_, rfl⟩ | ⟨hno, _⟩⟩
                · have HB4 := hid (HB2.out.go f2)
                  clear f2 c0 c1 c2 c3 c4 y0 y1 y2 y3 y4 d0 d1 d2 d3 d4 x3 x4
                  obtain ⟨⟨c0, c1, c2, c3, c4⟩, ⟨y0, y1, y2, y3, y4⟩, ⟨d0, d1, d2, d3, d4⟩, x3, x4⟩ := HB4.out.facts
                  have hvv : (bs (trim (cutB 58 s).2.1)).size ≤ maxLen := by rw [size_bs]; unfold maxLen; omega
                  generalize low (cutB 58 s).1 = nm at HF HY ⊢
                  generalize trim (cutB 58 s).2.1 = vv at HF HY hvv ⊢
                  clear hls hvl
                  have hte := te_eq nm
                  have hcl := cl_eq nm
                  have hco := co_eq nm
                  by_cases h1 : nm = hTE
                  · rw [decide_eq_true h1] at hte
                    have HQ := hid (HF.out (by rw [h1]; exact cnt_te _ _ _))
                    clear h1 hcl hco
                    go_wp2_with fail
                    refine rd_ret rfl rfl rfl rfl (blk_set5 (w := w2) HB4.out.res _ _ _ _ _) ?_
                    exact rd_fault HQ.out (by decide) (HB4.out.fin _ _ _ _ _)
                  · rw [decide_eq_false h1] at hte
                    by_cases h2 : nm = hCL
                    · rw [decide_eq_true h2] at hcl
                      rw [decide_eq_false (by rw [h2]; simp [hCL, hCO])] at hco
                      have HLE0 : Calls Tryz.prog 71 #[.string (bs vv)] w2 (LenPost w2 (tl (bs vv))) := rlength_ok (bs vv) w2 hvv
                      rw [tl_bs] at HLE0
                      have HCC := hid (countCL vv len r.close)
                      rw [← h2] at HCC
                      clear h1 h2
                      by_cases hlen : 1 ≤ vv.length ∧ vv.length ≤ 9 ∧ vv.all isDig = true
                      · have hat : (atoiD 0 vv : Int) ≤ 1000000000 := by
                          have := ratoi_lt 0 vv hlen.2.2
                          have := Nat.pow_le_pow_right (show 0 < 10 by omega) hlen.2.1
                          omega
                        have HLE : Calls Tryz.prog 71 #[.string (bs vv)] w2 fun e w' => e = .returned (.tuple #[.int .i64 (atoiD 0 vv : Int), .bool true]) ∧ w2 = w' := HLE0.mono (by
                          rintro e w' ⟨nn, rfl, hnn, rfl⟩
                          rw [hnn hlen, decide_eq_true hlen]
                          exact ⟨rfl, rfl⟩)
                        have hat0 : 0 ≤ (atoiD 0 vv : Int) := by omega
                        clear HLE0
                        by_cases h0 : 0 ≤ len
                        · obtain rfl : tb = true := by rw [HLT.out.2]; exact decide_eq_true h0
                          have HQ := hid (HF.out (by rw [HCC.out, if_neg (by omega)]))
                          go_wp2_with fail
                          refine HLE.mono ?_
                          rintro e w' ⟨rfl, rfl⟩
                          clear hlen h0
                          go_wp2_with fail
                          refine rd_ret rfl rfl rfl rfl (blk_set5 (w := w2) HB4.out.res _ _ _ _ _) ?_
                          exact rd_fault HQ.out (by decide) (HB4.out.fin _ _ _ _ _)
                        · obtain rfl : tb = false := by rw [HLT.out.2]; exact decide_eq_false h0
                          have HQ := hid (HY.out _ _ (by rw [HCC.out, if_pos ⟨by omega, hlen⟩]))
                          go_wp2_with fail
                          refine HLE.mono ?_
                          rintro e w' ⟨rfl, rfl⟩
                          clear hlen h0
                          go_wp2_with fail
                          go_roundw
                          case rel => exact ⟨at_ + s.length + 2, n + 1, atoiD 0 vv, true, _, _, _, H', by go_num, rfl, rfl, by go_num, ⟨by simp, by simp⟩, HB4.out, by omega, by omega, hat, by omega, HQ.out, HBD2.out⟩
                          case measure => simp [intOf]; omega
                      · have HLE : Calls Tryz.prog 71 #[.string (bs vv)] w2 fun e w' => ∃ nn, e = .returned (.tuple #[.int .i64 nn, .bool false]) ∧ w2 = w' := HLE0.mono (by
                          rintro e w' ⟨nn, rfl, hnn, rfl⟩
                          rw [decide_eq_false hlen]
                          exact ⟨nn, rfl, rfl⟩)
                        clear HLE0
                        have HQ := hid (HF.out (by rw [HCC.out, if_neg (fun hx => hlen hx.2)]))
                        clear hlen
                        go_wp2_with fail
                        refine HLE.mono ?_
                        rintro e w' ⟨nn, rfl, rfl⟩
                        go_wp2_with fail
                        refine rd_ret rfl rfl rfl rfl (blk_set5 (w := w2) HB4.out.res _ _ _ _ _) ?_
                        exact rd_fault HQ.out (by decide) (HB4.out.fin _ _ _ _ _)
                    · rw [decide_eq_false h2] at hcl
                      by_cases h3 : nm = hCO
                      · rw [decide_eq_true h3] at hco
                        have HCC := hid (countCO vv len r.close)
                        rw [← h3] at HCC
                        have hlow := close_eq (low vv)
                        clear h1 h2 h3
                        cases hb : decide (low vv = hClose) with
                        | true =>
                          have HQ := hid (HY.out _ _ HCC.out)
                          rw [hb, Bool.or_true] at HQ
                          rw [hb] at hlow
                          clear hb HCC
                          go_wp2_with (go_at_call 72; refine (rlower_ok (bs vv) _ hvv).mono ?_; rintro e w3 ⟨rfl, f3⟩; rw [tl_bs]; have HB5 := hid (HB4.out.go f3); clear f3 c0 c1 c2 c3 c4 y0 y1 y2 y3 y4 d0 d1 d2 d3 d4 x3 x4; obtain ⟨⟨c0, c1, c2, c3, c4⟩, ⟨y0, y1, y2, y3, y4⟩, ⟨d0, d1, d2, d3, d4⟩, x3, x4⟩ := HB5.out.facts)
                          go_roundw
                          case rel => exact ⟨at_ + s.length + 2, n + 1, L, tb, len, _, _, H', by go_num, rfl, rfl, by go_num, HLT.out, HB5.out.close, by omega, by omega, hln, by omega, HQ.out, HBD2.out⟩
                          case measure => simp [intOf]; omega
                        | false =>
                          have HQ := hid (HY.out _ _ HCC.out)
                          rw [hb, Bool.or_false] at HQ
                          rw [hb] at hlow
                          clear hb HCC
                          go_wp2_with (go_at_call 72; refine (rlower_ok (bs vv) _ hvv).mono ?_; rintro e w3 ⟨rfl, f3⟩; rw [tl_bs]; have HB5 := hid (HB4.out.go f3); clear f3 c0 c1 c2 c3 c4 y0 y1 y2 y3 y4 d0 d1 d2 d3 d4 x3 x4; obtain ⟨⟨c0, c1, c2, c3, c4⟩, ⟨y0, y1, y2, y3, y4⟩, ⟨d0, d1, d2, d3, d4⟩, x3, x4⟩ := HB5.out.facts)
                          go_roundw
                          case rel => exact ⟨at_ + s.length + 2, n + 1, L, tb, len, r, _, H', by go_num, rfl, rfl, by go_num, HLT.out, HB5.out, by omega, by omega, hln, by omega, HQ.out, HBD2.out⟩
                          case measure => simp [intOf]; omega
                      · rw [decide_eq_false h3] at hco
                        have HQ := hid (HY.out _ _ (cnt_else vv len r.close h1 h2 h3))
                        clear h1 h2 h3
                        go_wp2_with fail
                        go_roundw
                        case rel => exact ⟨at_ + s.length + 2, n + 1, L, tb, len, r, _, H', by go_num, rfl, rfl, by go_num, HLT.out, HB4.out, by omega, by omega, hln, by omega, HQ.out, HBD2.out⟩
                        case measure => simp [intOf]; omega
                · exact absurd HOK.out hno
              · have HQ := hid (show parse buf = .fault 400 by rw [HP3.out, hdrs_no hl hne (hdrS_no hlin (.inr (by omega)))])
                have HOK := hid hok
                have hn' : 32 ≤ n := by omega
                clear hl hd98 hB2 hok hne hlin hn
                go_wp2_with fail
                refine hLn.mono ?_
                rintro e w' ⟨rfl, rfl⟩
                go_wp2_with fail
                refine hHd.mono ?_
                rintro e w2 ⟨f2, ⟨_, rfl⟩ | ⟨hno, _⟩⟩
                · have HB4 := hid (HB2.out.go f2)
                  clear f2 c0 c1 c2 c3 c4 y0 y1 y2 y3 y4 d0 d1 d2 d3 d4 x3 x4
                  obtain ⟨⟨c0, c1, c2, c3, c4⟩, ⟨y0, y1, y2, y3, y4⟩, ⟨d0, d1, d2, d3, d4⟩, x3, x4⟩ := HB4.out.facts
                  go_wp2_with fail
                  refine rd_ret rfl rfl rfl rfl (blk_set5 (w := w2) HB4.out.res _ _ _ _ _) ?_
                  exact rd_fault HQ.out (by decide) (HB4.out.fin _ _ _ _ _)
                · exact absurd HOK.out hno
            · have HQ := hid (show parse buf = .fault 400 by rw [HP3.out, hdrs_no hl hne (hdrS_no hlin (.inl hok))])
              have HNO := hid hok
              clear hl hd98 hB2 hok hne hlin
              go_wp2_with fail
              refine hLn.mono ?_
              rintro e w' ⟨rfl, rfl⟩
              go_wp2_with fail
              refine hHd.mono ?_
              rintro e w2 ⟨f2, ⟨hy, _⟩ | ⟨_, rfl⟩⟩
              · exact absurd hy HNO.out
              · have HB4 := hid (HB2.out.go f2)
                clear f2 c0 c1 c2 c3 c4 y0 y1 y2 y3 y4 d0 d1 d2 d3 d4 x3 x4
                obtain ⟨⟨c0, c1, c2, c3, c4⟩, ⟨y0, y1, y2, y3, y4⟩, _⟩ := HB4.out.facts
                go_wp2_with fail
                refine rd_ret rfl rfl rfl rfl (blk_set5 (w := w2) HB4.out.res _ _ _ _ _) ?_
                exact rd_fault HQ.out (by decide) (HB4.out.fin _ _ _ _ _)
end Go.Proofs.YtpofpgejhnlfjaaGreatDoor
