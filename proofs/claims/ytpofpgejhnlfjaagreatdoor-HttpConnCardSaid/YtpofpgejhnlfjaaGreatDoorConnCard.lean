/- 'HttpConn', the card: whatever bytes come, in whatever pieces, a connection tells what the document's reference tells. No condition beside the row's own. -/
import Derived.Test.YtpofpgejhnlfjaaGreatDoorConnB
import Derived.Test.YtpofpgejhnlfjaaGreatDoorHttpS
import Derived.Test.YtpofpgejhnlfjaaGreatDoorWit
import Derived.Deep.DeepWitnessRowRef
import Derived.Deep.Matrix
import Derived.SizedLaws
set_option linter.unusedVariables false
set_option linter.unusedSimpArgs false
set_option maxRecDepth 1000000
namespace Go.Proofs.YtpofpgejhnlfjaaGreatDoor
open Go Go.RowKit Go.ChangeShapes Go.WideShapes Go.Deep Bpm Bph

theorem u8s_of_wf (ns : List Int) (h2 : ∀ z ∈ ns, (Lit.int .u8 z).wf = true) : u8s (ns.map fun z => UInt8.ofNat z.toNat) = ns.map fun z => Value.int .u8 z := by
  unfold u8s u8
  rw [List.map_map]
  refine List.map_congr_left fun z hz => ?_
  have hr := bounds_u8 (h2 z hz)
  show Value.int .u8 ((UInt8.ofNat z.toNat).toNat : Int) = .int .u8 z
  congr 1
  simp
  omega
/-- A row of bytes off its cells. -/
theorem byt_of_cells {W : World} {A : Option Addr} {L C : Nat} {Z : List Int} (h1 : L ≤ C) (h2 : C ≤ maxLen) (hz : Z.length = C) (hw : ∀ n ∈ Z, (Lit.int .u8 n).wf = true) (h0 : A = none → C = 0)
    (hc : ∀ a', A = some a' → ∀ c, c < C → W.cell? (a'.add c) = some (.int .u8 (Z.getD c 0))) : BytR (HW W) (.slice A L C) ((Z.take L).map fun z => UInt8.ofNat z.toNat) := by
  have hl : (Z.take L).length = L := by simp; omega
  unfold BytR
  rw [u8s_of_wf _ (fun z hz' => hw z (List.mem_of_mem_take hz')), List.length_map, hl]
  unfold maxLen at h2
  refine ⟨A, C, rfl, h1, by omega, fun hne => ?_⟩
  have h0' : 0 < L := by
    rcases Nat.eq_zero_or_pos L with h | h
    · subst h; simp at hne
    · exact h
  cases A with
  | none => have := h0 rfl; omega
  | some a =>
    obtain ⟨hsp, cur, te, fr, hb, _⟩ := cell_block (hc a rfl 0 (by omega))
    obtain ⟨b, o, sp⟩ := a
    have hsp : sp = none := by simpa [Addr.add] using hsp
    subst hsp
    rw [add_off] at hb
    refine ⟨b, o, cur, te, fr, rfl, hb, fun j hj => ?_⟩
    have hj : j < L := by rw [List.length_map, hl] at hj; exact hj
    have h3 := hc _ rfl j (by omega)
    rw [add_off, blk_cell hb] at h3
    rw [h3]
    simp [hj, List.getElem?_take, List.getD_eq_getElem?_getD, List.getElem?_eq_getElem (show j < Z.length by omega)]
theorem weights_all {H : Type} {P : Program} {e : TypeId} {l : List (DataW H)} {d : DataW H} (hd : d ∈ l) {x : Nat} (hx : x ∈ d.weights P e) : x ∈ DataW.weightsAll P e l := by
  induction l with
  | nil => cases hd
  | cons a r ih =>
    simp only [DataW.weightsAll]
    rcases List.mem_cons.1 hd with rfl | hd
    · exact List.mem_append_left _ hx
    · exact List.mem_append_right _ (ih hd)
/-- A slice of slices of bytes that came in. -/
theorem open_rows {H : Type} {enc : TypeId × Value → H} {W : World} {base : Nat} {v : Value} {d : DataW H} {p : List MemPlace} {vt : List TypeId} {gs : List (DataW H)} (hval : Value.okWide Tryz.prog W .any base 38 v) (h : DataW.Trod enc Tryz.prog W 0 (fun _ => true) true 38 v d p)
    (hsz : (DataW.weights Tryz.prog 38 d).all (· ≤ reachBytes) = true) :
    ∃ ls : List (List UInt8), RowsR (HW W) v ls ∧ ∀ l ∈ ls, l.length ≤ 140737488355328 := by
  obtain ⟨a1, len, cap, rfl⟩ := okWide_slice Tryz.underlying38 hval
  obtain ⟨fuel, hf⟩ := h
  rcases open_int_rows (k := .u8) Tryz.underlying38 Tryz.underlying22 Tryz.underlying5 (by kernel_rfl) (by kernel_rfl) hf with ⟨hcs, hx⟩ | ⟨a, len', cap', A, L, C, Z, hcs, _, hl, hm, hx, hrow⟩
  · simp [Value.cells] at hcs
    obtain ⟨rfl, rfl, rfl⟩ := hcs
    exact ⟨[], ⟨[], RowR.nil _, rfl, fun i hi => by simp at hi⟩, by simp⟩
  · simp [Value.cells] at hcs
    obtain ⟨rfl, rfl, rfl⟩ := hcs
    unfold maxLen at hm
    have hrr : ∀ r, r < len → BytR (HW W) (.slice (A r) (L r) (C r)) (((Z r).take (L r)).map fun z => UInt8.ofNat z.toNat) := fun r hr => by
      obtain ⟨_, h2, h3, h4, h5, h6, h7⟩ := hrow r (by omega)
      exact byt_of_cells h2 h3 h4 h5 h6 (fun a' ha' => (h7 a' ha').2)
    refine ⟨(List.range len).map fun r => ((Z r).take (L r)).map fun z => UInt8.ofNat z.toNat, ⟨(List.range len).map fun r => .slice (A r) (L r) (C r), ⟨some a, cap, by simp, by simp; omega, by simp; omega, fun hne => ?_⟩, by simp, fun i hi => ?_⟩, fun l hl' => ?_⟩
    · have h0 : 0 < len := by
        rcases Nat.eq_zero_or_pos len with h | h
        · subst h; simp at hne
        · exact h
      obtain ⟨hsp, cur, te, fr, hb, _⟩ := cell_block (hrow 0 (by omega)).1
      obtain ⟨b, o, sp⟩ := a
      have hsp : sp = none := by simpa [Addr.add] using hsp
      subst hsp
      rw [add_off] at hb
      refine ⟨b, o, cur, te, fr, rfl, hb, fun j hj => ?_⟩
      have hj : j < len := by simpa using hj
      have h3 := (hrow j (by omega)).1
      rw [add_off, blk_cell hb] at h3
      rw [h3]
      simp [hj]
    · have hi : i < len := by simpa using hi
      exact ⟨.slice (A i) (L i) (C i), by simp [hi], by simpa using hrr i hi⟩
    · obtain ⟨r, hr, rfl⟩ := List.mem_map.1 hl'
      have hr : r < len := List.mem_range.1 hr
      obtain ⟨_, h2, h3, h4, h5, h6, h7⟩ := hrow r (by omega)
      simp only [Prod.mk.injEq] at hx
      obtain ⟨rfl, _⟩ := hx
      simp only [List.length_map, List.length_take]
      cases hA : A r with
      | none => have := h6 hA; omega
      | some a' =>
        have hw : ((Z r).take (L r)).length + ((Z r).drop (L r)).length ∈ DataW.weights Tryz.prog 22 (intRow (H := H) .u8 (A r) (L r) (Z r)) := by
          rw [hA]
          simp [intRow, DataW.weights, lits, Tryz.underlying22, show Tryz.prog.bytesOf 5 = 1 by kernel_rfl]
        have hw2 : ((Z r).take (L r)).length + ((Z r).drop (L r)).length ∈ DataW.weights Tryz.prog 38 (.slice ((List.range len).map fun r => intRow (H := H) .u8 (A r) (L r) (Z r)) ((List.range (cap - len)).map fun j => intRow .u8 (A (len + j)) (L (len + j)) (Z (len + j)))) := by
          have hm1 := weights_all (List.mem_map.2 ⟨r, List.mem_range.2 hr, rfl⟩ : intRow (H := H) .u8 (A r) (L r) (Z r) ∈ (List.range len).map fun r => intRow (H := H) .u8 (A r) (L r) (Z r)) hw
          simp only [DataW.weights, Tryz.underlying38]
          first
            | exact List.mem_cons_of_mem _ (List.mem_append_left _ hm1)
            | simp [hm1]
        have := List.all_eq_true.1 hsz _ hw2
        simp [reachBytes] at this
        simp at this ⊢
        omega
theorem weights_head {H : Type} {P : Program} {t : TypeId} {ts : List TypeId} {d : DataW H} {ds : List (DataW H)} (h : (DataW.weightsEach P (t :: ts) (d :: ds)).all (· ≤ reachBytes) = true) : (DataW.weights P t d).all (· ≤ reachBytes) = true := by
  simp only [DataW.weightsEach, List.all_append, Bool.and_eq_true] at h
  exact h.1
/-- What the law gives at every world of its row. -/
theorem conn_row (H : Type) (enc : TypeId × Value → H) (W : World) (base : Nat) (args : Array Value) (ds gs : List (DataW H)) (before : List MemPlace)
    (hval : ∀ (j : Nat) t v, Tryz.f4.params[j]? = some t → args[j]? = some v → Value.okWide Tryz.prog W .any base t v)
    (hW : DataW.Whole enc Tryz.prog Tryz.f4.params.toList Rows.httpConnSpec.vars false W args.toList ds gs before) (hS : W.ShapedOpen Tryz.prog)
    (hsz : (DataW.weightsEach Tryz.prog (Tryz.f4.params.toList ++ (OpenSpec.ofChange Rows.httpConnSpec).bare.plain.varTypes Tryz.prog) (ds ++ gs)).all (· ≤ reachBytes) = true) :
    Calls Tryz.prog 4 args W fun e W' => ∃ v, e = .returned v ∧ Rows.httpConnSpec.post enc Tryz.prog Tryz.f4 false true false false W args v W' := by
  have hW' := hW
  obtain ⟨p, q, hA0, hV, rfl, hfz, hnd⟩ := hW
  have hA : DataW.TrodAll enc Tryz.prog W 0 (fun _ => true) true Tryz.f4.params.toList args.toList ds p := hA0
  rw [Tryz.params4] at hA hval hsz
  obtain ⟨v0, vs0, d0, ds0, p0, q0, hargs, rfl, rfl, h0, r0⟩ := trodAll_cons hA
  obtain ⟨rfl, rfl, rfl⟩ := trodAll_nil r0
  obtain rfl : args = #[v0] := by cases args; simp_all
  obtain ⟨rfl, rfl⟩ := trodVars_none hV
  obtain ⟨ls, hl, hm⟩ := open_rows (vt := []) (gs := ([] : List (DataW H))) (hval 0 38 v0 rfl rfl) h0 (weights_head hsz)
  refine (conn_ok (HW W) W (env_of_shape hS) (HW.good W) v0 ls hl hm).mono fun e W' ⟨he, hf⟩ => ?_
  subst he
  have hb := hf.below
  have hlt : ∀ x ∈ p0 ++ [] ++ [], x.block < W.heap.size := fun x hx => hW'.lt x (by simpa using hx)
  have k0 := Below.trod (by kernel_rfl) (by kernel_rfl) (of_decide_eq_true (by kernel_rfl)) h0 hb (fun x hx => hlt x (by simp [hx]))
  refine ⟨_, rfl, _, _, _, [], _, [], hW', trodAll_mk1 (shut_bool Tryz.underlying4 true), trodAll_mk1 k0, rfl, ?_, fun h => by cases h⟩
  exact hb.frame _

theorem conn_laid (os : Os) (args : Array Value) : laidMet Tryz.prog Rows.httpConnRow.laid (witW os args) := by
  rw [show (Rows.httpConnRow.laid : List (String × DataW Unit)) = laidA ++ ([("unicode.CaseRanges", Lib.caseData)] ++ laidC) by rw [← Pinned.caseRanges_eq]; rfl]
  exact laid_all os args
theorem conn_reads (os : Os) {H : Type} (enc : TypeId × Value → H) : ∃ places, DataW.whole enc Tryz.prog (witW os #[.slice none 0 0]) Tryz.f4.params.toList Rows.httpConnSpec.vars false #[Value.slice none 0 0].toList 8 = some ([.nil], [], places) :=
  ⟨[], by kernel_rfl⟩
theorem conn_lifted (os : Os) (started : os.Started) (H : Type) (enc : TypeId × Value → H) (F : Stop.Interp) :
    ReturnsInHanded {} Tryz.checked os 4 .any ((OpenSpec.ofChange Rows.httpConnSpec).preRow enc Tryz.prog Tryz.f4 Rows.httpConnRow.domain false Rows.httpConnRow.laid) (((OpenSpec.ofChange Rows.httpConnSpec).at F).post enc Tryz.prog Tryz.f4 false true false false) := by
  obtain ⟨places, hx⟩ := conn_reads os enc
  refine returnsInHanded_of_row (C := Tryz.checked) (s := OpenSpec.ofChange Rows.httpConnSpec) own_knob started (by kernel_rfl) Tryz.func4
    (witness_row_atRef (enc := enc) (C := Tryz.checked) false (laidWorld os) #[.slice none 0 0] rfl (by kernel_rfl) (by kernel_rfl) (by kernel_rfl)
      (OpenSpec.preRow_of_cond 8 hx (by kernel_rfl) (fun k hk => by cases hk) (by kernel_rfl) (conn_laid os _))) ?_
  intro W base args ds gs before hval hW _ _ hsz _ hS _
  exact conn_row H enc W base args ds gs before hval hW hS hsz
theorem conn_said : Rows.HttpConnSaid :=
  OpenClaim.holds_of_cond 4 Tryz.f4 rfl rfl rfl rfl rfl rfl rfl ⟨rfl, rfl, rfl, rfl, rfl⟩ rfl rfl rfl rfl rfl (by kernel_rfl) Tryz.func4 (by kernel_rfl)
    (of_decide_eq_true (by kernel_rfl)) (by unfold Func.isWrapper; first | (rw [if_pos (by decide +kernel)]; kernel_rfl) | (rw [if_neg (by decide +kernel)]; exact ⟨rfl, rfl⟩))
    (fun os started H enc _ F => by rw [OpenClaim.pre_eq_preRow]; exact conn_lifted os started H enc F)
theorem conn_plain (f : FuncId) (fn : Func) (hf : Tryz.pinned.checked.prog.funcNamed "bootprint/bootprintlaw27.HttpConn" = some f) (hfn : Tryz.pinned.checked.prog.funcs[f]? = some fn) :
    true = Tryz.pinned.checked.prog.looks [] ∧ ∀ (j : Nat) t, fn.params[j]? = some t → Tryz.pinned.checked.prog.wantsStandIn t = false := by
  obtain rfl : f = 4 := Option.some.inj ((show Tryz.prog.funcNamed "bootprint/bootprintlaw27.HttpConn" = some 4 by kernel_rfl).symm.trans hf) |>.symm
  obtain rfl : fn = Tryz.f4 := (Option.some.inj (Tryz.func4.symm.trans hfn)).symm
  refine ⟨by kernel_rfl, fun j t ht => ?_⟩
  rw [Tryz.params4] at ht
  have hm := Array.mem_of_getElem? ht
  simp only [List.mem_toArray, List.mem_cons, List.mem_nil_iff, or_false] at hm
  subst hm
  exact (show Tryz.prog.wantsStandIn 38 = false by kernel_rfl)
theorem httpConn_card : Rows.HttpConnCardSaid :=
  Claim7.holds_tied_plain_at .later [] _ _ _ _ conn_said (fun _ h => by cases h) (by kernel_rfl) (fun _ h => by cases h) httpConn_row_tie rfl ⟨rfl, rfl⟩ (by kernel_rfl) rfl conn_plain (by kernel_rfl)
#print axioms httpConn_card
end Go.Proofs.YtpofpgejhnlfjaaGreatDoor
