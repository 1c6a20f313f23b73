/- From a row's reading of its arguments to rows of bytes and of numbers; the row of 'HttpPieces'. -/
import Derived.Test.YtpofpgejhnlfjaaGreatDoorHttpR
import Derived.Test.YtpofpgejhnlfjaaGreatDoorCards
import Derived.Test.YtpofpgejhnlfjaaGreatDoorTie
import Derived.ChangeSlices
import Derived.Carry
import Derived.OpenShut
import Derived.ProofKit
set_option linter.unusedVariables false
set_option linter.unusedSimpArgs false
set_option maxRecDepth 100000
namespace Go.Proofs.YtpofpgejhnlfjaaGreatDoor
open Go Go.RowKit Go.ChangeShapes Go.WideShapes Bpm Bph

def HW (W : World) : RO := fun k => W.heap[k]?
theorem HW.good (W : World) : GoodH (HW W) W := fun _ _ h => h
theorem cell_block {w : World} {a : Addr} {v : Value} (h : w.cell? a = some v) : a.spot = none ∧ ∃ cur e fr, w.heap[a.block]? = some (.cells cur e fr) ∧ cur[a.off]? = some v := by
  refine ⟨World.cell?_spot h, ?_⟩
  have hs := World.cell?_spot h
  obtain ⟨b, o, sp⟩ := a
  subst hs
  unfold World.cell? at h
  cases e : w.heap[b]? with
  | none => simp [e] at h
  | some ob =>
    cases ob with
    | cells cur t fr => exact ⟨cur, t, fr, rfl, by simpa [e] using h⟩
    | _ => simp [e] at h
theorem env_of_shape {W : World} (h : W.ShapedOpen Tryz.prog) : Env (HW W) := by
  obtain ⟨m, hm⟩ := Go.Proofs.cell_of_shapedOpen_int (zero := #[.int .i64 0]) (t := 3) (g := 0) h (of_decide_eq_true (by kernel_rfl)) (by kernel_rfl) rfl (by kernel_rfl) (by kernel_rfl) Tryz.underlying3
  obtain ⟨cs, hh, hs, _⟩ := h.1 0 #[.int .i64 0] 3 (of_decide_eq_true (by kernel_rfl)) (by kernel_rfl)
  obtain ⟨v, rfl⟩ := Array.size_eq_one_iff.1 (hs.trans rfl)
  rw [blk_cell hh] at hm
  simp at hm
  subst hm
  exact ⟨m, _, _, hh⟩
/-- A slice of numbers that came in. -/
theorem open_nums {H : Type} {enc : TypeId × Value → H} {t e : TypeId} {k : IntKind} {W : World} {base : Nat} {v : Value} {d : DataW H} {p : List MemPlace} (ht : Tryz.prog.underlying t = some (.slice e)) (he : Tryz.prog.underlying e = some (.int k)) (hc : Tryz.prog.cellsOf e = 1)
    (hval : Value.okWide Tryz.prog W .any base t v) (h : DataW.Trod enc Tryz.prog W 0 (fun _ => true) true t v d p) :
    ∃ ns : List Int, RowR (HW W) v ns.length (ns.map fun z => .int k z) ∧ ∀ z ∈ ns, (Lit.int k z).wf = true := by
  obtain ⟨a1, len, cap, rfl⟩ := okWide_slice ht hval
  obtain ⟨fuel, hf⟩ := h
  rcases open_ints ht he hc hf with ⟨hcs, hx⟩ | ⟨a, len', cap', zs, hcs, _, hl, hm, hz, hx, hcell, hwz⟩
  · simp [Value.cells] at hcs
    obtain ⟨rfl, rfl, rfl⟩ := hcs
    exact ⟨[], RowR.nil _, by simp⟩
  · simp [Value.cells] at hcs
    obtain ⟨rfl, rfl, rfl⟩ := hcs
    simp only [if_true] at hz
    unfold maxLen at hm
    have hlen : (zs.take len).length = len := by simp; omega
    refine ⟨zs.take len, ⟨some a, cap, by rw [hlen], by omega, by omega, fun hne => ?_⟩, fun z hz' => hwz z (List.mem_of_mem_take hz')⟩
    have h0 : 0 < len := by
      rcases Nat.eq_zero_or_pos len with h | h
      · subst h; simp at hne
      · exact h
    obtain ⟨hsp, cur, te, fr, hb, h1⟩ := cell_block (hcell 0 (by omega))
    obtain ⟨b, o, sp⟩ := a
    have hsp : sp = none := by simpa [Addr.add] using hsp
    subst hsp
    rw [add_off] at hb
    refine ⟨b, o, cur, te, fr, rfl, hb, fun j hj => ?_⟩
    have hj : j < len := by rw [List.length_map, hlen] at hj; exact hj
    have h2 := hcell j (by omega)
    rw [add_off, blk_cell hb] at h2
    rw [h2]
    simp [hj, List.getElem?_take, List.getD_eq_getElem?_getD, List.getElem?_eq_getElem (show j < zs.length by omega)]
theorem open_byt {H : Type} {enc : TypeId × Value → H} {W : World} {base : Nat} {v : Value} {d : DataW H} {p : List MemPlace} (hval : Value.okWide Tryz.prog W .any base 22 v) (h : DataW.Trod enc Tryz.prog W 0 (fun _ => true) true 22 v d p) :
    ∃ l : List UInt8, BytR (HW W) v l := by
  obtain ⟨ns, h1, h2⟩ := open_nums Tryz.underlying22 Tryz.underlying5 (by kernel_rfl) hval h
  have hu : (ns.map fun z => Value.int .u8 z) = u8s (ns.map fun z => UInt8.ofNat z.toNat) := by
    unfold u8s u8
    rw [List.map_map]
    refine List.map_congr_left fun z hz => ?_
    have hz' := h2 z hz
    have hr := bounds_u8 hz'
    show Value.int .u8 z = .int .u8 ((UInt8.ofNat z.toNat).toNat : Int)
    congr 1
    simp
    omega
  refine ⟨ns.map fun z => UInt8.ofNat z.toNat, ?_⟩
  unfold BytR
  rw [List.length_map, ← hu]
  exact h1

/-- What the law gives at every world of its row. -/
theorem pieces_row (H : Type) (enc : TypeId × Value → H) (W : World) (base : Nat) (args : Array Value) (ds gs : List (DataW H)) (before : List MemPlace)
    (hval : ∀ (j : Nat) t v, Tryz.f3.params[j]? = some t → args[j]? = some v → Value.okWide Tryz.prog W .any base t v)
    (hW : DataW.Whole enc Tryz.prog Tryz.f3.params.toList Rows.httpPiecesSpec.vars false W args.toList ds gs before) (hS : W.ShapedOpen Tryz.prog) :
    Calls Tryz.prog 3 args W fun e W' => ∃ v, e = .returned v ∧ Rows.httpPiecesSpec.post enc Tryz.prog Tryz.f3 false true false false W args v W' := by
  have hW' := hW
  obtain ⟨p, q, hA0, hV, rfl, hfz, hnd⟩ := hW
  have hA : DataW.TrodAll enc Tryz.prog W 0 (fun _ => true) true Tryz.f3.params.toList args.toList ds p := hA0
  rw [Tryz.params3] at hA hval
  obtain ⟨v0, vs0, d0, ds0, p0, q0, hargs, rfl, rfl, h0, r0⟩ := trodAll_cons hA
  obtain ⟨v1, vs1, d1, ds1, p1, q1, rfl, rfl, rfl, h1, r1⟩ := trodAll_cons r0
  obtain ⟨rfl, rfl, rfl⟩ := trodAll_nil r1
  obtain rfl : args = #[v0, v1] := by cases args; simp_all
  obtain ⟨rfl, rfl⟩ := trodVars_none hV
  obtain ⟨l, hl⟩ := open_byt (hval 0 22 v0 rfl rfl) h0
  obtain ⟨ns, hn, hw⟩ := open_nums Tryz.underlying23 Tryz.underlying3 (by kernel_rfl) (hval 1 23 v1 rfl rfl) h1
  refine (pieces_ok (HW W) W (env_of_shape hS) (HW.good W) v0 v1 l ns hl hn (fun z hz => ?_)).mono fun e W' ⟨he, hf⟩ => ?_
  · have := hw z hz
    simp [Lit.wf] at this
    exact this
  · subst he
    have hb := hf.below
    have hlt : ∀ x ∈ p0 ++ (p1 ++ []) ++ [], x.block < W.heap.size := fun x hx => hW'.lt x (by simpa using hx)
    have k0 := Below.trod (by kernel_rfl) (by kernel_rfl) (of_decide_eq_true (by kernel_rfl)) h0 hb (fun x hx => hlt x (by simp [hx]))
    have k1 := Below.trod (by kernel_rfl) (by kernel_rfl) (of_decide_eq_true (by kernel_rfl)) h1 hb (fun x hx => hlt x (by simp [hx]))
    refine ⟨_, rfl, _, _, _, [], _, [], hW', trodAll_mk1 (shut_bool Tryz.underlying4 true), trodAll_mk2 k0 k1, rfl, ?_, fun h => by cases h⟩
    exact hb.frame _

theorem own_knob : ownKnob Tryz.prog.godebug = none := by kernel_rfl
theorem kindsT (v : String) (h : v ∈ ["math/bits.deBruijn32tab"]) : True := trivial
end Go.Proofs.YtpofpgejhnlfjaaGreatDoor
