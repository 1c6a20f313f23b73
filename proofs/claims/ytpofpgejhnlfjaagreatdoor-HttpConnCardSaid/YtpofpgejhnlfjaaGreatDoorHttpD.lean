/- The walk of 'Target'. -/
import Derived.Test.YtpofpgejhnlfjaaGreatDoorHttpC
set_option linter.unusedVariables false
set_option linter.unusedSimpArgs false
set_option maxRecDepth 100000
namespace Go.Proofs.YtpofpgejhnlfjaaGreatDoor
open Go Go.RowKit Bpm Bph
attribute [local go_sem] Oper.semAt_some

def Env (H : RO) : Prop := ∃ m t fr, H 0 = some (.cells #[.int .i64 m] t fr)
theorem Env.mx {H : RO} {w : World} (h : Env H) (hG : GoodH H w) : Mx w := by
  obtain ⟨m, t, fr, h⟩ := h
  exact ⟨m, by rw [blk_cell (hG _ _ h)]; rfl⟩
theorem Env.ext {H H' : RO} {w : World} (h : Env H) (x : Ext H H' w) : Env H' := by
  obtain ⟨m, t, fr, h⟩ := h
  exact ⟨m, t, fr, x.mono _ _ h⟩

/-- Parameters' cells. -/
def parCells (l : List (List UInt8 × List UInt8)) : List Value := l.flatMap fun p => [.string (bs p.1), .string (bs p.2)]
theorem parCells_len (l : List (List UInt8 × List UInt8)) : (parCells l).length = l.length * 2 := by
  induction l with
  | nil => rfl
  | cons p r ih => simp [parCells] at ih ⊢; omega
theorem parCells_snoc (l : List (List UInt8 × List UInt8)) (p : List UInt8 × List UInt8) : parCells (l ++ [p]) = parCells l ++ [.string (bs p.1), .string (bs p.2)] := by simp [parCells]
def ParR (H : RO) (v : Value) (l : List (List UInt8 × List UInt8)) : Prop := RowR H v l.length (parCells l)
theorem elPar : ElemT Tryz.prog 30 60 2 32 (.agg #[.string ⟨#[]⟩, .string ⟨#[]⟩]) := ⟨by kernel_rfl, by kernel_rfl, rfl, by omega⟩

/-- What the loop over a target's parameters holds: N: the heap's size where it begins; bq, bk: the boxes of query and ok. -/
def TgI (w : World) (N bq bk : Nat) (ok0 : Bool) (pre : List (List UInt8)) (W : World) : Prop :=
  Fr [] w W ∧ W.heap[bk]? = some (.cells #[.bool (ok0 && partsOk pre)] 4 (0, 0)) ∧
  ∃ v, W.heap[bq]? = some (.cells #[v] 30 (0, 0)) ∧ OwnR W v 60 2 (partsP pre).length (parCells (partsP pre)) ∧ ∀ g, v.ownBlock = some g → N + 2 ≤ g
theorem TgI.fr {w : World} {N bq bk : Nat} {ok0 : Bool} {pre : List (List UInt8)} {W W' : World} {S : List Nat} (h : TgI w N bq bk ok0 pre W) (f : Fr S W W') (hw : ∀ x, x ∈ S → w.heap.size ≤ x) (hq : bq ∉ S) (hk : bk ∉ S) (hS : ∀ x, x ∈ S → x < N + 2) : TgI w N bq bk ok0 pre W' := by
  obtain ⟨h1, h2, v, h3, h4, h5⟩ := h
  exact ⟨h1.then f (fun x hx => .inr (hw x hx)), f.blk h2 hk, v, f.blk h3 hq, h4.fr f (fun g hg hx => by have := h5 g hg; have := hS g hx; omega), h5⟩
theorem partsOk_snoc (pre : List (List UInt8)) (x : List UInt8) : partsOk (pre ++ [x]) = (partsOk pre && partOk x) := by simp [partsOk]
theorem partsP_snoc (pre : List (List UInt8)) (x : List UInt8) : partsP (pre ++ [x]) = if someP (partP x) then partsP pre ++ [partP x] else partsP pre := by
  unfold partsP
  rw [List.map_append, List.filter_append]
  simp only [List.map_cons, List.map_nil, List.filter_cons, List.filter_nil]
  split <;> simp
theorem partsP_len (pre : List (List UInt8)) : (partsP pre).length ≤ pre.length := by
  unfold partsP
  exact Nat.le_trans (List.length_filter_le _ _) (by simp)

def TgtPost (H : RO) (w : World) (l : List UInt8) (e : Ending) (w' : World) : Prop :=
  Fr [] w w' ∧ match tgt l with
  | none => e = .returned (.tuple #[.string ⟨#[]⟩, .slice none 0 0, .int .i64 2])
  | some (p, ps) => ∃ v H', e = .returned (.tuple #[.string (bs p), v, .int .i64 0]) ∧ Ext H H' w ∧ GoodH H' w' ∧ ParR H' v ps

theorem tgtPre_eq (s : ByteArray) (hz : 0 < s.size) : tgtPre (tl s) = (decide (s.size ≤ 2048) && (s[0] == 47) && (tl s).all isVis) := by
  unfold tgtPre
  have h : (tl s).head? = some s[0] := by rw [← tl_get? s 0 hz, List.head?_eq_getElem?]
  rw [h, tl_len]
  have h1 : decide (1 ≤ s.size) = true := by simp; omega
  rw [h1]
  simp
theorem tgt_no {l : List UInt8} (h : tgtPre l = false) : tgt l = none := by unfold tgt; rw [h]; simp

set_option maxHeartbeats 4000000 in
theorem target_in (H : RO) (s : ByteArray) (w : World) (hs : s.size ≤ 20000) (hE : Env H) (hG : GoodH H w) :
    CallsIn Fence.wide 0 Tryz.prog 21 #[.string s] w (TgtPost H w (tl s)) := by
  have hMx := hE.mx hG
  have hM := hid hMx
  have hw0 : 0 < w.heap.size := by
    obtain ⟨m, hm⟩ := hMx
    exact World.block_lt_of_cell? w _ hm
  clear hMx hE
  have hGG := hid hG
  clear hG
  refine callsIn_of_wp_marks Tryz.func21 rfl trivial ?_ rfl
  simp only [Tryz.ntmps21, List.size_toArray, List.length_cons, List.length_nil, Nat.reduceAdd, Nat.reduceSub, Array.replicate_succ, Array.replicate_zero, List.push_toArray, List.append_toArray, List.nil_append, List.cons_append]
  by_cases h1 : s.size < 1
  · have HT := hid (show tgtPre (tl s) = false by unfold tgtPre; rw [tl_len]; simp; omega)
    gi_wp2_with (refine ⟨trivial, ?_⟩)
    have hc2 : ((w.alloc (.cells #[.slice none 0 0] 30))).cell? ⟨w.heap.size, 0, none⟩ = some (.slice none 0 0) := (blk_cell (blk_new w _) 0).trans (by simp)
    refine ⟨_, ?_, (Fr.refl [] w).alloc _, by rw [tgt_no HT.out]⟩
    simp [results, Tryz.results21, go_sem]
  · by_cases h2 : 2048 < s.size
    · have HT := hid (show tgtPre (tl s) = false by rw [tgtPre_eq s (by omega)]; simp; omega)
      gi_wp2_with (refine ⟨trivial, ?_⟩)
      have hc2 : ((w.alloc (.cells #[.slice none 0 0] 30))).cell? ⟨w.heap.size, 0, none⟩ = some (.slice none 0 0) := (blk_cell (blk_new w _) 0).trans (by simp)
      refine ⟨_, ?_, (Fr.refl [] w).alloc _, by rw [tgt_no HT.out]⟩
      simp [results, Tryz.results21, go_sem]
    · have hz : 0 < s.size := by omega
      by_cases h3 : s[0] = 47
      · have h3' : ((s[0].toNat : Int) != 47) = false := by rw [bne, beq_u8' s[0] 47 (by omega) (by omega) h3]; rfl
        cases h4 : (tl s).all isVis with
        | false =>
          have HT := hid (show tgtPre (tl s) = false by rw [tgtPre_eq s hz, h4]; simp)
          clear h3
          gi_wp2_with (refine ⟨trivial, rfl, ?_⟩; first | (gi_at_call 38; refine (callsIn_wide.2 (all_isVis s _ (by unfold maxLen; omega))).mono ?_; rintro e w' ⟨rfl, rfl⟩))
          have hc2 : ((w.alloc (.cells #[.slice none 0 0] 30))).cell? ⟨w.heap.size, 0, none⟩ = some (.slice none 0 0) := (blk_cell (blk_new w _) 0).trans (by simp)
          refine ⟨_, ?_, (Fr.refl [] w).alloc _, by rw [tgt_no HT.out]⟩
          simp [results, Tryz.results21, go_sem]
        | true =>
          have h5 : tgtPre (tl s) = true := by rw [tgtPre_eq s hz, h3, h4]; simp; omega
          clear h3
          gi_wp2_with (refine ⟨trivial, rfl, ?_⟩; first | (gi_at_call 38; refine (callsIn_wide.2 (all_isVis s _ (by unfold maxLen; omega))).mono ?_; rintro e w' ⟨rfl, rfl⟩))
          -- strings.Cut(s, "?")
          refine ⟨trivial, rfl, ?_⟩
          refine (callsIn_wide.2 (cut_ok s 63 _ (hM.out.fr ((Fr.refl [] w).alloc _) (by simp)) (by omega))).mono ?_
          rintro e w' ⟨rfl, n, rfl⟩
          have l1 : (bs (cutB 63 (tl s)).1).size ≤ 20000 := by rw [size_bs]; have := (cut_len 63 (tl s)).1; rw [tl_len] at this; omega
          have l2 : (cutB 63 (tl s)).2.1.length ≤ 2048 := by have := (cut_len 63 (tl s)).2; rw [tl_len] at this; omega
          gi_wp2_with fail
          -- unescape(first, false)
          refine ⟨trivial, rfl, ?_⟩
          refine (callsIn_wide.2 (unescape_ok _ false _ l1)).mono ?_
          rintro e w1 ⟨rfl, hb1⟩
          rw [tl_bs]
          have f1 : Fr [] w w1 := (((Fr.refl [] w).alloc _).drewN n).trans (Fr.of_below hb1 _)
          have q1 : w1.heap[w.heap.size]? = some (.cells #[.slice none 0 0] 30 (0, 0)) := (Fr.of_below hb1 []).blk (blk_new w _) (by simp)
          have z1 : w.heap.size + 1 ≤ w1.heap.size := by have := hb1.size; simpa using this
          clear hb1
          gi_wp2_with fail
          -- strings.SplitSeq(rest, "&")
          refine ⟨trivial, rfl, ?_⟩
          refine (callsIn_wide.2 (splitSeq_ok _ _)).mono ?_
          rintro e W ⟨rfl, hW⟩
          rw [World.size_alloc]
          have hmw := hM.out.fr f1 (by simp)
          have gw1 := hGG.out.fr f1 (by simp)
          have fW : Fr [] w W := by rw [← hW]; exact (((f1.alloc _).alloc _).alloc _).alloc _
          have q2 : W.heap[w.heap.size]? = some (.cells #[.slice none 0 0] 30 (0, 0)) := by rw [← hW]; exact blk_alloc (blk_alloc (blk_alloc (blk_alloc q1 _) _) _) _
          have k2 : W.heap[w1.heap.size]? = some (.cells #[.bool (unescB false (cutB 63 (tl s)).1)] 4 (0, 0)) := by rw [← hW]; exact blk_alloc (blk_alloc (blk_alloc (blk_new _ _) _) _) _
          have c0 : W.heap[w1.heap.size + 1]? = some (.cells #[.string (bs (cutB 63 (tl s)).2.1)] 9 (0, 0)) := by rw [← hW]; exact blk_alloc (blk_alloc (by simpa using blk_new (w1.alloc (.cells #[.bool (unescB false (cutB 63 (tl s)).1)] 4)) _) _) _
          have c1 : W.heap[w1.heap.size + 2]? = some (.cells #[.string ⟨#[38]⟩] 9 (0, 0)) := by rw [← hW]; exact blk_alloc (by simpa using blk_new ((w1.alloc (.cells #[.bool (unescB false (cutB 63 (tl s)).1)] 4)).alloc (.cells #[.string (bs (cutB 63 (tl s)).2.1)] 9)) _) _
          have c2 : W.heap[w1.heap.size + 3]? = some (.cells #[.int .i64 0] 3 (0, 0)) := by rw [← hW]; simpa using blk_new (((w1.alloc (.cells #[.bool (unescB false (cutB 63 (tl s)).1)] 4)).alloc (.cells #[.string (bs (cutB 63 (tl s)).2.1)] 9)).alloc (.cells #[.string ⟨#[38]⟩] 9)) _
          have zW : W.heap.size = w1.heap.size + 4 := by rw [← hW]; simp
          have zW' : W.heap.size ≤ w1.heap.size + 4 ∧ w1.heap.size + 4 ≤ W.heap.size := ⟨Nat.le_of_eq zW, Nat.le_of_eq zW.symm⟩
          clear hW zW
          have mW := hM.out.fr fW (by simp)
          have b0 : 0 < w1.heap.size := by omega
          have hIt := splitSeq_iter (bs (cutB 63 (tl s)).2.1) (w1.heap.size + 1) (w1.heap.size + 2) (w1.heap.size + 3) (by omega) (by omega) (by omega) (by omega) W (by rw [size_bs]; omega) mW c0 c1 c2
          rw [tl_bs] at hIt
          gi_wp2_with fail
          have h60 : ∀ x : List UInt8, x ∈ splitB 38 (cutB 63 (tl s)).2.1 → x.length ≤ 2048 := fun x hx => by have := split_len x hx; omega
          have hcount : (splitB 38 (cutB 63 (tl s)).2.1).length ≤ 2049 := by rw [split_length]; have := List.count_le_length (a := (38 : UInt8)) (l := (cutB 63 (tl s)).2.1); omega
          have HX := hid (⟨h60, hcount⟩ : _ ∧ _)
          clear h60 hcount
          have hq0 := hid (q2 : _)
          have hk0 := hid (k2 : _)
          clear c0 c1 c2 q2 k2 q1 h1 h2 h4 h3' l2 l1
          refine range_law' (gf := 99) rfl (enters_of Tryz.func99 (by kernel_rfl) rfl) hIt ?hB (fun _ => rfl)
            (TgI w W.heap.size w.heap.size w1.heap.size (unescB false (cutB 63 (tl s)).1)) (fun _ _ _ => False) ?hI (fun _ _ _ _ h _ => h.elim) ?h0 ?hab ?hdone (fun _ _ _ _ h => h.elim)
          case hB => simp; omega
          case hI => exact fun pre W1 W2 h f => h.fr f (by simp; omega) (by simp; omega) (by simp; omega) (by simp; omega)
          case h0 => exact fun W1 f => ⟨fW.trans f, by simpa [partsOk] using f.blk hk0.out (by simp), _, f.blk hq0.out (by simp), OwnR.nil _ _ _, by simp [Value.ownBlock]⟩
          case hab =>
            apply Exists.intro
            refine ⟨?_, ?_⟩
            · intro l x W1 K hK
              gi_wp2
              exact hK
            · rintro l pre x rest W1 hx ⟨i1, i2, v, i3, i4, i5⟩ hz1
              have hxl : (bs x).size ≤ 2048 := by rw [size_bs]; exact HX.out.1 x (by rw [hx]; simp)
              have hpl : (partsP pre).length ≤ 2049 := by have := partsP_len pre; have := HX.out.2; rw [hx] at this; simp at this; omega
              have l1 : (bs (cutB 61 x).1).size ≤ 20000 := by rw [size_bs]; have := (cut_len 61 x).1; rw [size_bs] at hxl; omega
              have l2 : (bs (cutB 61 x).2.1).size ≤ 20000 := by rw [size_bs]; have := (cut_len 61 x).2; rw [size_bs] at hxl; omega
              have I1 := hid i1
              have I2 := hid i2
              have I3 := hid i3
              have I4 := hid i4
              clear i1 i2 i3 i4 hx
              gi_wp2_with fail
              refine ⟨trivial, rfl, ?_⟩
              refine (CallsIn.inRound l (callsIn_wide.2 (cut_ok (bs x) 61 W1 (hM.out.fr I1.out (by simp)) (by omega)))).mono ?_
              rintro e w' ⟨rfl, m, rfl⟩
              rw [tl_bs]
              gi_wp2_with fail
              refine ⟨trivial, rfl, ?_⟩
              refine (CallsIn.inRound l (callsIn_wide.2 (unescape_ok _ true _ l1))).mono ?_
              rintro e w2 ⟨rfl, hb2⟩
              rw [tl_bs]
              gi_wp2_with fail
              refine ⟨trivial, rfl, ?_⟩
              refine (CallsIn.inRound l (callsIn_wide.2 (unescape_ok _ true _ l2))).mono ?_
              rintro e w3 ⟨rfl, hb3⟩
              rw [tl_bs]
              have f3 : Fr [] W1 w3 := (((Fr.refl [] W1).drewN m).trans (Fr.of_below hb2 _)).trans (Fr.of_below hb3 _)
              clear hb2 hb3
              have k3 := f3.blk I2.out (by simp)
              have q3 := f3.blk I3.out (by simp)
              have o3 := I4.out.fr f3 (by simp)
              have ck := blk_cell k3 0
              have fk := blk_free k3 0
              have cq := blk_cell q3 0
              have fq := blk_free q3 0
              simp at ck cq
              generalize hnn : unescS true (cutB 61 x).1 = nn at *
              generalize hvv : unescS true (cutB 61 x).2.1 = vv at *
              generalize hfn : unescB true (cutB 61 x).1 = fn at *
              generalize hfv : unescB true (cutB 61 x).2.1 = fv at *
              have hpo : partOk x = (fn && fv) := by unfold partOk; rw [hfn, hfv]
              have hpp : partP x = (nn, vv) := by unfold partP; rw [hnn, hvv]
              have HP := hid (⟨hpo, hpp⟩ : _ ∧ _)
              clear hnn hvv hfn hfv hpo hpp
              generalize hok : (unescB false (cutB 63 (tl s)).1 && partsOk pre) = okb at *
              have HK := hid hok
              clear hok
              have fin : ∀ (b : Bool) (v' : Value) (w4 : World), b = (okb && fn && fv) → Fr (w.heap.size :: w1.heap.size :: v.ownBlock.toList) w3 w4 → w4.heap[w1.heap.size]? = some (.cells #[.bool b] 4 (0, 0)) → w4.heap[w.heap.size]? = some (.cells #[v'] 30 (0, 0)) →
                  OwnR w4 v' 60 2 (partsP (pre ++ [x])).length (parCells (partsP (pre ++ [x]))) → (∀ g, v'.ownBlock = some g → W.heap.size + 2 ≤ g) →
                  Lies (W.heap.size :: (W.heap.size + 1) :: ([w1.heap.size + 1, w1.heap.size + 2, w1.heap.size + 3] ++ [0])) W1 w4 ∧ TgI w W.heap.size w.heap.size w1.heap.size (unescB false (cutB 63 (tl s)).1) (pre ++ [x]) w4 := by
                intro b v' w4 hb hf hk hq ho hg
                have hz3 := f3.size
                have hvo : ∀ k, k ∈ v.ownBlock.toList → W.heap.size + 2 ≤ k := fun k hk => i5 k (by simpa using hk)
                refine ⟨((f3.mono (T := w.heap.size :: w1.heap.size :: v.ownBlock.toList) (by simp)).trans hf).lies ?_, (I1.out.trans f3).then hf ?_, ?_, v', hq, ho, hg⟩
                · intro k hk
                  have hk2 : k < W.heap.size + 2 ∧ k < W1.heap.size ∧ k ≠ w.heap.size ∧ k ≠ w1.heap.size := by
                    simp only [List.mem_cons, List.mem_append, List.not_mem_nil, or_false] at hk
                    omega
                  refine ⟨hk2.2.1, fun hx => ?_⟩
                  simp only [List.mem_cons] at hx
                  rcases hx with hx | hx | hx
                  · omega
                  · omega
                  · have := hvo k hx; omega
                · intro k hk
                  simp only [List.mem_cons] at hk
                  rcases hk with hk | hk | hk
                  · right; omega
                  · right; omega
                  · have := hvo k hk; right; omega
                · rw [partsOk_snoc, HP.out.1, ← Bool.and_assoc, HK.out, ← Bool.and_assoc, ← hb]; exact hk
              have hvb : w1.heap.size ∉ v.ownBlock.toList ∧ w.heap.size ∉ v.ownBlock.toList := by
                constructor <;> (intro hx; have := i5 _ (by simpa using hx); omega)
              have o3' : ∀ b : Bool, OwnR (w3.setCell ⟨w1.heap.size, 0, none⟩ (.bool b)) v 60 2 (partsP pre).length (parCells (partsP pre)) := fun b =>
                o3.fr ((Fr.refl [w1.heap.size] w3).setCell (.inl (by simp)) _) (fun g hg => by have := i5 g hg; simp; omega)
              have FIN := hid fin
              have K3 := hid k3
              have Q3 := hid q3
              have O3 := hid o3
              have O3' := hid o3'
              have I5 := hid i5
              clear fin k3 q3 o3 o3' i5
              have hsz : w.heap.size < w3.heap.size ∧ w1.heap.size < w3.heap.size := ⟨blk_lt Q3.out, blk_lt K3.out⟩
              have done_ : ∀ b : Bool, b = (okb && fn && fv) → someP (nn, vv) = false → Lies (W.heap.size :: (W.heap.size + 1) :: ([w1.heap.size + 1, w1.heap.size + 2, w1.heap.size + 3] ++ [0])) W1 (w3.setCell ⟨w1.heap.size, 0, none⟩ (.bool b)) ∧ TgI w W.heap.size w.heap.size w1.heap.size (unescB false (cutB 63 (tl s)).1) (pre ++ [x]) (w3.setCell ⟨w1.heap.size, 0, none⟩ (.bool b)) := fun b hb hsome =>
                FIN.out b v _ hb ((Fr.refl _ _).setCell (.inl (by simp)) _) (by simpa using blk_set K3.out 0 (.bool b)) (blk_set_far Q3.out (by show w.heap.size ≠ w1.heap.size; omega) _) (by rw [partsP_snoc, HP.out.2, hsome]; exact O3'.out b) I5.out
              have app_ : ∀ (b : Bool) (A4 : Option Addr) (c4 : Nat) (w4 : World), b = (okb && fn && fv) → someP (nn, vv) = true → OwnR w4 (.slice A4 ((partsP pre).length + 1) c4) 60 2 ((partsP pre).length + 1) (parCells (partsP pre) ++ [.string (bs nn), .string (bs vv)]) →
                  (w3.setCell ⟨w1.heap.size, 0, none⟩ (.bool b)).grownBy w4 v.ownBlock → ((Value.slice A4 ((partsP pre).length + 1) c4).ownBlock = v.ownBlock ∨ ∃ g, (Value.slice A4 ((partsP pre).length + 1) c4).ownBlock = some g ∧ (w3.setCell ⟨w1.heap.size, 0, none⟩ (.bool b)).heap.size ≤ g) →
                  Lies (W.heap.size :: (W.heap.size + 1) :: ([w1.heap.size + 1, w1.heap.size + 2, w1.heap.size + 3] ++ [0])) W1 (w4.setCell ⟨w.heap.size, 0, none⟩ (.slice A4 ((partsP pre).length + 1) c4)) ∧ TgI w W.heap.size w.heap.size w1.heap.size (unescB false (cutB 63 (tl s)).1) (pre ++ [x]) (w4.setCell ⟨w.heap.size, 0, none⟩ (.slice A4 ((partsP pre).length + 1) c4)) := by
                intro b A4 c4 w4 hb hsome o4 g4 at4
                have hz3 := f3.size
                have g4f := Fr.of_grown g4
                have q4 := g4f.blk (blk_set_far Q3.out (show w.heap.size ≠ w1.heap.size by omega) (.bool b)) hvb.2
                have k4 := g4f.blk (by simpa using blk_set K3.out 0 (.bool b)) hvb.1
                have h4b : ∀ g, (Value.slice A4 ((partsP pre).length + 1) c4).ownBlock = some g → W.heap.size + 2 ≤ g := by
                  intro g hg
                  rcases at4 with e | ⟨g', e, hge⟩
                  · rw [e] at hg; exact I5.out g hg
                  · rw [e] at hg; cases hg; simp at hge; omega
                have hne : ∀ g, (Value.slice A4 ((partsP pre).length + 1) c4).ownBlock = some g → g ∉ [w.heap.size] := fun g hg => by have := h4b g hg; simp; omega
                refine FIN.out b _ _ hb ?_ (blk_set_far k4 (show w1.heap.size ≠ w.heap.size by omega) _) (by simpa using blk_set q4 0 _) ?_ h4b
                · refine Fr.setCell (Fr.then ((Fr.refl _ w3).setCell (.inl (by simp)) _) g4f (fun x hx => .inl (by simp at hx ⊢; exact .inr (.inr hx)))) (.inl (by simp)) _
                · rw [partsP_snoc, HP.out.2, hsome]
                  simp only [if_true, List.length_append, List.length_singleton]
                  rw [parCells_snoc]
                  exact o4.fr ((Fr.refl [w.heap.size] w4).setCell (.inl (by simp)) _) hne
              have big : (partsP pre).length ≤ 2049 := hpl
              by_cases hn : nn = []
              · have hN := bs_isnil hn
                by_cases hv : vv = []
                · have hV := bs_isnil hv
                  have hs0 : someP (nn, vv) = false := by subst hn hv; rfl
                  clear hn hv
                  cases okb <;> cases fn
                  all_goals
                    gi_wp2
                    refine done_ _ ?_ hs0
                    simp
                · have hV : (!(bs vv).toList.isEmpty) = true := by rw [bs_empty]; cases vv with | nil => exact absurd rfl hv | cons _ _ => rfl
                  have hs1 : someP (nn, vv) = true := by unfold someP; cases vv with | nil => exact absurd rfl hv | cons _ _ => simp
                  have o3' := O3'.out
                  clear hn hv
                  cases okb <;> cases fn
                  all_goals
                    gi_wp2_with (gi_at_builtin; refine wpIn_appN rfl _ _ _ rfl elPar (o3' _) rfl rfl (by simp) rfl (by simp [Value.oneCell']) (by omega) (by omega) ?_; intro v4 w4 o4 g4 at4; obtain ⟨A4, c4, rfl⟩ := OwnR.slice o4; have q4 := (Fr.of_grown g4).blk (blk_set_far Q3.out (show w.heap.size ≠ w1.heap.size by omega) (.bool _)) hvb.2; have cq4 := blk_cell q4 0; have fq4 := blk_free q4 0; simp at cq4; have G4 := hid g4; have O4 := hid o4; have A4' := hid at4; clear g4 o4 at4 q4)
                    refine app_ _ _ _ _ ?_ hs1 O4.out G4.out A4'.out
                    simp
              · have hN : (!(bs nn).toList.isEmpty) = true := by rw [bs_empty]; cases nn with | nil => exact absurd rfl hn | cons _ _ => rfl
                have hs1 : someP (nn, vv) = true := by unfold someP; cases nn with | nil => exact absurd rfl hn | cons _ _ => simp
                have o3' := O3'.out
                clear hn
                cases okb <;> cases fn
                all_goals
                    gi_wp2_with (gi_at_builtin; refine wpIn_appN rfl _ _ _ rfl elPar (o3' _) rfl rfl (by simp) rfl (by simp [Value.oneCell']) (by omega) (by omega) ?_; intro v4 w4 o4 g4 at4; obtain ⟨A4, c4, rfl⟩ := OwnR.slice o4; have q4 := (Fr.of_grown g4).blk (blk_set_far Q3.out (show w.heap.size ≠ w1.heap.size by omega) (.bool _)) hvb.2; have cq4 := blk_cell q4 0; have fq4 := blk_free q4 0; simp at cq4; have G4 := hid g4; have O4 := hid o4; have A4' := hid at4; clear g4 o4 at4 q4)
                    refine app_ _ _ _ _ ?_ hs1 O4.out G4.out A4'.out
                    simp
          case hdone =>
            rintro W1 ⟨i1, i2, v, i3, i4, i5⟩ hD hz1
            have ck := blk_cell i2 0
            have cq := blk_cell i3 0
            have fq := blk_free i3 0
            simp at ck cq
            have I1 := hid i1
            have I2 := hid i2
            have I3 := hid i3
            have I4 := hid i4
            have I5 := hid i5
            have hD' := hid hD
            obtain ⟨A, c, rfl⟩ := OwnR.slice i4
            clear i1 i2 i3 i4 i5 hD
            cases hok : (unescB false (cutB 63 (tl s)).1 && partsOk (splitB 38 (cutB 63 (tl s)).2.1)) with
            | false =>
              have ht : tgt (tl s) = none := by unfold tgt; rw [if_pos h5, hok]; simp
              rw [hok] at ck
              have HT := hid ht
              clear ht hok
              gi_wp2
              have hd1 := blk_set_far (p := ⟨w.heap.size, 0, none⟩) hD'.out (show W.heap.size ≠ w.heap.size by omega) (.slice none 0 0)
              refine ⟨by simp, .inl ⟨_, _, rfl, run_takeDeferred hd1, ?_⟩⟩
              have hc1 := blk_set I3.out 0 (.slice none 0 0)
              have f2 : Fr [] w ((W1.setCell ⟨w.heap.size, 0, none⟩ (.slice none 0 0)).putObj W.heap.size (.deferred none)) := (I1.out.setCell (.inr (Nat.le_refl _)) _).putObj (.inr (by omega)) _
              have hc2 : ((W1.setCell ⟨w.heap.size, 0, none⟩ (.slice none 0 0)).putObj W.heap.size (.deferred none)).cell? ⟨w.heap.size, 0, none⟩ = some (.slice none 0 0) := by
                refine (blk_cell ((World.putObj_heap_other (by omega)).trans hc1) 0).trans (by simp)
              refine ⟨_, ?_, f2, by rw [HT.out]⟩
              simp [results, Tryz.results21, go_sem, hc2]
            | true =>
              have ht : tgt (tl s) = some (unescS false (cutB 63 (tl s)).1, partsP (splitB 38 (cutB 63 (tl s)).2.1)) := by unfold tgt; rw [if_pos h5, hok]; simp
              rw [hok] at ck
              have HT := hid ht
              clear ht hok
              gi_wp2
              gi_region
              gi_wp2
              have hd1 := blk_set_far (p := ⟨w.heap.size, 0, none⟩) hD'.out (show W.heap.size ≠ w.heap.size by omega) (.slice A (partsP (splitB 38 (cutB 63 (tl s)).2.1)).length c)
              refine ⟨by simp, .inl ⟨_, _, rfl, run_takeDeferred hd1, ?_⟩⟩
              have hc1 := blk_set I3.out 0 (.slice A (partsP (splitB 38 (cutB 63 (tl s)).2.1)).length c)
              have f1' : Fr [W.heap.size, w.heap.size] W1 ((W1.setCell ⟨w.heap.size, 0, none⟩ (.slice A (partsP (splitB 38 (cutB 63 (tl s)).2.1)).length c)).drew.putObj W.heap.size (.deferred none)) := (((Fr.refl [W.heap.size, w.heap.size] W1).setCell (.inl (by simp)) _).drew).putObj (.inl (by simp)) _
              have f2 : Fr [] w ((W1.setCell ⟨w.heap.size, 0, none⟩ (.slice A (partsP (splitB 38 (cutB 63 (tl s)).2.1)).length c)).drew.putObj W.heap.size (.deferred none)) := I1.out.then f1' (by simp; omega)
              have hc2 : ((W1.setCell ⟨w.heap.size, 0, none⟩ (.slice A (partsP (splitB 38 (cutB 63 (tl s)).2.1)).length c)).drew.putObj W.heap.size (.deferred none)).cell? ⟨w.heap.size, 0, none⟩ = some (.slice A (partsP (splitB 38 (cutB 63 (tl s)).2.1)).length c) := by
                refine (blk_cell ((World.putObj_heap_other (by omega)).trans hc1) 0).trans (by simp)
              have o2 := I4.out.fr f1' (fun g hg => by have := I5.out g hg; simp; omega)
              obtain ⟨H', hg', hx', hr'⟩ := o2.read (hGG.out.fr f2 (by simp)) (fun g hg => hGG.out.none_ge (by have := I5.out g hg; omega)) (w0 := w) (fun g hg => by have := I5.out g hg; omega)
              refine ⟨_, ?_, f2, by rw [HT.out]; exact ⟨_, H', rfl, hx', hg', hr'⟩⟩
              simp [results, Tryz.results21, go_sem, hc2]
      · have h3' : ((s[0].toNat : Int) != 47) = true := by rw [bne, beq_u8 s[0] 47 (by omega) (by omega) h3]; rfl
        have HT := hid (show tgtPre (tl s) = false by rw [tgtPre_eq s hz]; simp [h3])
        clear h3
        gi_wp2_with (refine ⟨trivial, ?_⟩)
        have hc2 : ((w.alloc (.cells #[.slice none 0 0] 30))).cell? ⟨w.heap.size, 0, none⟩ = some (.slice none 0 0) := (blk_cell (blk_new w _) 0).trans (by simp)
        refine ⟨_, ?_, (Fr.refl [] w).alloc _, by rw [tgt_no HT.out]⟩
        simp [results, Tryz.results21, go_sem]

theorem target_ok (H : RO) (s : ByteArray) (w : World) (hs : s.size ≤ 20000) (hE : Env H) (hG : GoodH H w) :
    Calls Tryz.prog 21 #[.string s] w (TgtPost H w (tl s)) := callsIn_wide.1 (target_in H s w hs hE hG)
end Go.Proofs.YtpofpgejhnlfjaaGreatDoor
