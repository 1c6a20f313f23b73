/- The walk of the reference's 'Target'. -/
import Derived.Test.YtpofpgejhnlfjaaGreatDoorRefC
import Derived.Test.YtpofpgejhnlfjaaGreatDoorHttpD
set_option linter.unusedVariables false
set_option linter.unusedSimpArgs false
set_option maxRecDepth 100000
namespace Go.Proofs.YtpofpgejhnlfjaaGreatDoor
open Go Go.RowKit Bpm Bph

theorem rcut_38 (l : List UInt8) (w : World) (h : l.length ≤ 20000) : Calls Tryz.prog 44 #[.string (bs l), .int .u8 38] w (CutPost w 38 l) := rcut_ok (bs l) 38 w (by rw [size_bs]; unfold maxLen; omega)
theorem rcut_61 (l : List UInt8) (w : World) (h : l.length ≤ 20000) : Calls Tryz.prog 44 #[.string (bs l), .int .u8 61] w (CutPost w 61 l) := rcut_ok (bs l) 61 w (by rw [size_bs]; unfold maxLen; omega)
theorem rcut_63 (s : ByteArray) (w : World) (h : s.size ≤ 20000) : Calls Tryz.prog 44 #[.string s, .int .u8 63] w (CutPost w 63 (tl s)) := rcut_ok s 63 w (by unfold maxLen; omega)
theorem rpl (l : List UInt8) (plus : Bool) (w : World) (h : l.length ≤ 20000) : Calls Tryz.prog 45 #[.string (bs l), .bool plus] w (PlPost w plus l) := rplainly_ok (bs l) plus w (by rw [size_bs]; exact h)
theorem tgt_bad {l : List UInt8} (h5 : tgtPre l = true) (h : (unescB false (cutB 63 l).1 && partsOk (splitB 38 (cutB 63 l).2.1)) = false) : tgt l = none := by
  unfold tgt; rw [if_pos h5, h]; simp
theorem tgt_good {l : List UInt8} (h5 : tgtPre l = true) (h : (unescB false (cutB 63 l).1 && partsOk (splitB 38 (cutB 63 l).2.1)) = true) : tgt l = some (unescS false (cutB 63 l).1, partsP (splitB 38 (cutB 63 l).2.1)) := by
  unfold tgt; rw [if_pos h5, h]; simp
theorem rtgt_ret {Q : Ending → World → Prop} {a : Act} {w : World} {p q e : Value} (hd : a.defers = []) (h2 : a.tmps.getD 2 undef = p) (h3 : a.tmps.getD 3 undef = q) (h4 : a.tmps.getD 4 undef = e) (hQ : Q (.returned (.tuple #[p, q, e])) w) : bodyPost Tryz.prog Tryz.f22 Q .ret a w := by
  refine bodyPost_ret (v := .tuple #[p, q, e]) ?_ hd hQ
  rw [Array.getD_eq_getD_getElem?] at h2 h3 h4
  simp only [results, Tryz.results22]
  simp [h2, h3, h4, go_sem]
theorem rtgt_no {H : RO} {w w' : World} {l : List UInt8} (h : tgt l = none) (f : Fr [] w w') : TgtPost H w l (.returned (.tuple #[.string ⟨#[]⟩, .slice none 0 0, .int .i64 2])) w' := ⟨f, by rw [h]⟩
/-- What the loop over the parameters holds. -/
structure RtI (w : World) (q0 qq : List UInt8) (acc : List (List UInt8 × List UInt8)) (l : Value) (wr : World) : Prop where
  own : OwnR wr l 60 2 acc.length (parCells acc)
  ge : ∀ g, l.ownBlock = some g → w.heap.size ≤ g
  fr : Fr [] w wr
  len : acc.length + qq.length ≤ 2048
  ok : partsOk (splitB 38 q0) = partsOk (splitB 38 qq)
  par : partsP (splitB 38 q0) = acc ++ partsP (splitB 38 qq)
theorem RtI.next {w wr w2 : World} {q0 qq : List UInt8} {acc : List (List UInt8 × List UInt8)} {l : Value} (h : RtI w q0 qq acc l wr) (hq : qq ≠ []) (f : Fr [] wr w2) (hok : partOk (cutB 38 qq).1 = true) (hs : someP (partP (cutB 38 qq).1) = false) :
    RtI w q0 (cutB 38 qq).2.1 acc l w2 := by
  have hc := parts_cut qq
  have hl := cut_lt 38 qq hq
  refine ⟨h.own.fr f (by simp), h.ge, h.fr.trans f, by have := h.len; omega, ?_, ?_⟩
  · rw [h.ok, hc.1, hok, Bool.true_and]
  · rw [h.par, hc.2, hs]; simp
theorem RtI.push {w wr w2 w3 : World} {q0 qq : List UInt8} {acc : List (List UInt8 × List UInt8)} {l l' : Value} (h : RtI w q0 qq acc l wr) (hq : qq ≠ []) (f : Fr [] wr w2) (hok : partOk (cutB 38 qq).1 = true) (hs : someP (partP (cutB 38 qq).1) = true)
    (ho : OwnR w3 l' 60 2 (acc.length + 1) (parCells acc ++ [.string (bs (partP (cutB 38 qq).1).1), .string (bs (partP (cutB 38 qq).1).2)])) (g3 : w2.grownBy w3 l.ownBlock) (at3 : l'.ownBlock = l.ownBlock ∨ ∃ g, l'.ownBlock = some g ∧ w2.heap.size ≤ g) :
    RtI w q0 (cutB 38 qq).2.1 (acc ++ [partP (cutB 38 qq).1]) l' w3 := by
  have hc := parts_cut qq
  have hl := cut_lt 38 qq hq
  have hz := (h.fr.trans f).size
  refine ⟨by rw [parCells_snoc, List.length_append]; exact ho, fun g hg => ?_, (h.fr.trans f).then (Fr.of_grown g3) (fun x hx => .inr (h.ge x (by simpa using hx))), by have := h.len; simp; omega, ?_, ?_⟩
  · rcases at3 with e | ⟨g', e, hge⟩
    · rw [e] at hg; exact h.ge g hg
    · rw [e] at hg; cases hg; omega
  · rw [h.ok, hc.1, hok, Bool.true_and]
  · rw [h.par, hc.2, hs]; simp
theorem RtI.bad {w wr : World} {q0 qq : List UInt8} {acc : List (List UInt8 × List UInt8)} {l : Value} (h : RtI w q0 qq acc l wr) (hok : partOk (cutB 38 qq).1 = false) : partsOk (splitB 38 q0) = false := by
  rw [h.ok, (parts_cut qq).1, hok, Bool.false_and]
theorem RtI.done {w wr : World} {q0 : List UInt8} {acc : List (List UInt8 × List UInt8)} {l : Value} (h : RtI w q0 [] acc l wr) : partsOk (splitB 38 q0) = true ∧ partsP (splitB 38 q0) = acc := by
  rw [h.ok, h.par, parts_nil.1, parts_nil.2]; simp
theorem rtgt_yes {H : RO} {w wr : World} {l : List UInt8} (hG : GoodH H w) (h5 : tgtPre l = true) (hu : unescB false (cutB 63 l).1 = true) {p : List UInt8} (hp : p = unescS false (cutB 63 l).1) {acc : List (List UInt8 × List UInt8)} {v : Value} (h : RtI w (cutB 63 l).2.1 [] acc v wr) :
    TgtPost H w l (.returned (.tuple #[.string (bs p), v, .int .i64 0])) wr := by
  obtain ⟨h1, h2⟩ := h.done
  refine ⟨h.fr, ?_⟩
  rw [tgt_good h5 (by rw [hu, h1]; rfl), h2, hp]
  obtain ⟨H', g1, x1, r1⟩ := h.own.read (hG.fr h.fr (by simp)) (fun g hg => hG.none_ge (h.ge g hg)) (w0 := w) (fun g hg => h.ge g hg)
  exact ⟨v, H', rfl, x1, g1, r1⟩
theorem bs_neq {l : List UInt8} (h : l ≠ []) : (!(bs l).toList.isEmpty) = true := by
  rw [bs_empty]; cases l with | nil => exact absurd rfl h | cons _ _ => rfl
theorem isVis47 (c : UInt8) (h : c = 47) : ((c.toNat : Int) != 47) = false := by subst h; rfl
set_option maxHeartbeats 4000000 in
theorem rtarget_ok (H : RO) (s : ByteArray) (w : World) (hs : s.size ≤ 20000) (hG : GoodH H w) :
    Calls Tryz.prog 22 #[.string s] w (TgtPost H w (tl s)) := by
  have hmx : s.size ≤ maxLen := by unfold maxLen; omega
  have GG := hid hG
  clear hG
  by_cases hz : 0 < s.size
  · have hT := tgtPre_eq s hz
    by_cases h2 : s.size ≤ 2048
    · by_cases h3 : s[0] = 47
      · have h3' := isVis47 s[0] h3
        cases h4 : (tl s).all isVis with
        | true =>
          have h5 : tgtPre (tl s) = true := by rw [hT, h4, h3]; simp; exact h2
          have H5 := hid h5
          have l1 : (cutB 63 (tl s)).1.length ≤ 20000 := by have := (cut_len 63 (tl s)).1; rw [tl_len] at this; omega
          have l2 : (cutB 63 (tl s)).2.1.length ≤ 2048 := by have := (cut_len 63 (tl s)).2; rw [tl_len] at this; omega
          clear h3 hT h5
          go_enter Tryz.func22, Tryz.ntmps22
          go_wp2_with (go_at_call 43; refine (rplain_vis s _ hmx).mono ?_; rintro e w' ⟨rfl, rfl⟩)
          refine (rcut_63 s _ hs).mono ?_
          rintro e w' ⟨rfl, m, rfl⟩
          go_wp2_with fail
          refine (rpl _ false _ l1).mono ?_
          rintro e w1 ⟨p, rfl, hp, f1⟩
          cases hu : unescB false (cutB 63 (tl s)).1 with
          | false =>
            have HU := hid hu
            clear hp
            clear hu
            go_wp2_with fail
            exact rtgt_ret rfl rfl rfl rfl (rtgt_no (tgt_bad H5.out (by rw [HU.out]; rfl)) (((Fr.refl [] w).drewN m).trans f1))
          | true =>
            have HP := hid (hp hu)
            have HU := hid hu
            clear hp
            clear hu
            have HI := hid (show RtI w (cutB 63 (tl s)).2.1 (cutB 63 (tl s)).2.1 [] (.slice none 0 0) w1 from ⟨OwnR.nil _ _ _, by simp [Value.ownBlock], ((Fr.refl [] w).drewN m).trans f1, by simp; exact l2, rfl, rfl⟩)
            go_wp2_with fail
            go_loopw [6, 10] (fun q l wr => ∃ qq acc, q = .string (bs qq) ∧ RtI w (cutB 63 (tl s)).2.1 qq acc l wr) (fun q _ _ => (strOf q).size)
            case atStart => exact ⟨_, _, rfl, HI.out⟩
            case round =>
              obtain ⟨qq, acc, rfl, hI⟩ := hrel
              have II := hid hI
              by_cases hq : qq = []
              · subst hq
                have e0 : (bs ([] : List UInt8)).toList = [] := bs_isnil rfl
                clear hI
                go_wp2_with fail
                exact rtgt_ret rfl rfl rfl rfl (rtgt_yes GG.out H5.out HU.out HP.out II.out)
              · have e0 := bs_neq hq
                have hln := hI.len
                have HQ := hid hq
                have m1 : (cutB 38 qq).1.length ≤ 20000 := by have := (cut_len 38 qq).1; omega
                have m2 : (cutB 61 (cutB 38 qq).1).1.length ≤ 20000 := by have := (cut_len 61 (cutB 38 qq).1).1; omega
                have m3 : (cutB 61 (cutB 38 qq).1).2.1.length ≤ 20000 := by have := (cut_len 61 (cutB 38 qq).1).2; omega
                have hlt := hid (cut_lt 38 qq hq)
                clear hI hq
                go_wp2_with fail
                refine (rcut_38 qq _ (by omega)).mono ?_
                rintro e w' ⟨rfl, m4, rfl⟩
                go_wp2_with fail
                refine (rcut_61 _ _ m1).mono ?_
                rintro e w' ⟨rfl, m5, rfl⟩
                go_wp2_with fail
                refine (rpl _ true _ m2).mono ?_
                rintro e w3 ⟨n, rfl, hn, f3⟩
                go_wp2_with fail
                refine (rpl _ true _ m3).mono ?_
                rintro e w4 ⟨v, rfl, hv, f4⟩
                have F4 := hid ((((Fr.refl [] _).drewN (m4 + m5)).trans f3).trans f4)
                clear f3 f4
                have hpo : partOk (cutB 38 qq).1 = (unescB true (cutB 61 (cutB 38 qq).1).1 && unescB true (cutB 61 (cutB 38 qq).1).2.1) := rfl
                have hpp : partP (cutB 38 qq).1 = (unescS true (cutB 61 (cutB 38 qq).1).1, unescS true (cutB 61 (cutB 38 qq).1).2.1) := rfl
                have HPO := hid hpo
                have HPP := hid hpp
                clear hpo hpp
                cases hfn : unescB true (cutB 61 (cutB 38 qq).1).1 with
                | false =>
                  have hno := hid (II.out.bad (by rw [HPO.out, hfn]; rfl))
                  clear hn hv hfn
                  go_wp2_with fail
                  exact rtgt_ret rfl rfl rfl rfl (rtgt_no (tgt_bad H5.out (by rw [hno.out, Bool.and_false])) (II.out.fr.trans F4.out))
                | true =>
                  cases hfv : unescB true (cutB 61 (cutB 38 qq).1).2.1 with
                  | false =>
                    have hno := hid (II.out.bad (by rw [HPO.out, hfv, Bool.and_false]))
                    clear hn hv hfn hfv
                    go_wp2_with fail
                    exact rtgt_ret rfl rfl rfl rfl (rtgt_no (tgt_bad H5.out (by rw [hno.out, Bool.and_false])) (II.out.fr.trans F4.out))
                  | true =>
                    have hyes := hid (show partOk (cutB 38 qq).1 = true by rw [HPO.out, hfn, hfv]; rfl)
                    have hnv := hid (show partP (cutB 38 qq).1 = (n, v) by rw [HPP.out, hn hfn, hv hfv])
                    clear hn hv hfn hfv HPO HPP
                    by_cases h0 : n = [] ∧ v = []
                    · obtain ⟨rfl, rfl⟩ := h0
                      have e1 : (bs ([] : List UInt8)).toList = [] := bs_isnil rfl
                      go_wp2_with fail
                      go_roundw
                      case rel => exact ⟨_, _, rfl, II.out.next HQ.out F4.out hyes.out (by rw [hnv.out]; rfl)⟩
                      case measure => simp only [strOf, size_bs]; exact hlt.out
                    · have hsome := hid (show someP (partP (cutB 38 qq).1) = true by rw [hnv.out]; unfold someP; cases n <;> cases v <;> simp at h0 ⊢)
                      have ho := (II.out.own.fr F4.out (by simp))
                      by_cases hn0 : n = []
                      · have e1 := bs_isnil hn0
                        have e2 := bs_neq (show v ≠ [] from fun hv0 => h0 ⟨hn0, hv0⟩)
                        clear h0 hn0
                        go_wp2_with (at_builtin; refine wp_appN rfl _ _ _ rfl elPar ho rfl rfl (by simp) rfl (by simp [Value.oneCell']) (by omega) (by omega) ?_; intro v4 w5 o4 g4 at4; have O4 := hid o4; have G4 := hid g4; have A4 := hid at4; clear g4 o4 at4)
                        go_roundw
                        case rel => exact ⟨_, _, rfl, II.out.push HQ.out F4.out hyes.out hsome.out (by rw [hnv.out]; exact O4.out) G4.out A4.out⟩
                        case measure => simp only [strOf, size_bs]; exact hlt.out
                      · have e1 := bs_neq hn0
                        clear h0 hn0
                        go_wp2_with (at_builtin; refine wp_appN rfl _ _ _ rfl elPar ho rfl rfl (by simp) rfl (by simp [Value.oneCell']) (by omega) (by omega) ?_; intro v4 w5 o4 g4 at4; have O4 := hid o4; have G4 := hid g4; have A4 := hid at4; clear g4 o4 at4)
                        go_roundw
                        case rel => exact ⟨_, _, rfl, II.out.push HQ.out F4.out hyes.out hsome.out (by rw [hnv.out]; exact O4.out) G4.out A4.out⟩
                        case measure => simp only [strOf, size_bs]; exact hlt.out
        | false =>
          have HT := hid (show tgtPre (tl s) = false by rw [hT, h4]; simp)
          clear h3 hT
          go_enter Tryz.func22, Tryz.ntmps22
          go_wp2_with (go_at_call 43; refine (rplain_vis s _ hmx).mono ?_; rintro e w' ⟨rfl, rfl⟩)
          exact rtgt_ret rfl rfl rfl rfl (rtgt_no (tgt_no HT.out) (Fr.refl _ _))
      · have h3' : ((s[0].toNat : Int) != 47) = true := by rw [bne, beq_u8 s[0] 47 (by omega) (by omega) h3]; rfl
        have HT := hid (show tgtPre (tl s) = false by rw [hT]; simp [h3])
        clear h3 hT
        go_enter Tryz.func22, Tryz.ntmps22
        go_wp2_with fail
        exact rtgt_ret rfl rfl rfl rfl (rtgt_no (tgt_no HT.out) (Fr.refl _ _))
    · have HT := hid (show tgtPre (tl s) = false by rw [hT]; simp; omega)
      clear hT
      go_enter Tryz.func22, Tryz.ntmps22
      go_wp2_with fail
      exact rtgt_ret rfl rfl rfl rfl (rtgt_no (tgt_no HT.out) (Fr.refl _ _))
  · have HT := hid (show tgtPre (tl s) = false by unfold tgtPre; rw [tl_len, show decide (1 ≤ s.size) = false from decide_eq_false (by omega)]; simp)
    go_enter Tryz.func22, Tryz.ntmps22
    go_wp2_with fail
    exact rtgt_ret rfl rfl rfl rfl (rtgt_no (tgt_no HT.out) (Fr.refl _ _))
end Go.Proofs.YtpofpgejhnlfjaaGreatDoor
