/- A range over a function: one law for the statement, over an iterator that may keep boxes of its own. -/
import Derived.Test.YtpofpgejhnlfjaaGreatDoorMem
import Derived.RangeFuncMany
import Derived.RangeFuncLeaves
import Derived.RangeFuncBound
import Derived.RangeFuncCalls
import Derived.Shelf.RegionOpen
import Derived.OwnWalkIn
import Derived.TacticsInMore
import Derived.LoopNIn
import Derived.LoopIn
set_option linter.unusedVariables false
set_option linter.unusedSimpArgs false
namespace Bpm
open Go Go.RowKit

/-- append, inside a fence. -/
theorem wpIn_app {F : Fence} {d : Nat} {P : Program} {w : World} {ops : Array Oper} {rest : List Oper} {o : Oper} {a : Act} {Q : Exit → Act → World → Prop} (hgd : o.guard = none) (s x : Operand) (t tx : TypeId)
    (ho : o.op = .call { callee := .builtin .append, args := #[s, x], argTypes := #[t, tx] }) {e : TypeId} {sz by_ : Nat} {z : Value} (hT : ElemT P t e sz by_ z)
    {n : Nat} {cs : List Value} {v y : Value} (hO : OwnR w v e sz n cs) (hv : a.eval s = v) {m : Nat} {news : List Value} (hs : Src P sz tx y m news w) (hy : a.eval x = y)
    (hb : (n + m) * by_ ≤ 140737488355328) (hl : n + m ≤ 9223372036854775807)
    (h : ∀ v' w', OwnR w' v' e sz (n + m) (cs ++ news) → w.grownBy w' v.ownBlock → (v'.ownBlock = v.ownBlock ∨ ∃ g, v'.ownBlock = some g ∧ w.heap.size ≤ g) → wpListIn F d P ops Q rest (a.put o.dst v') w') :
    wpListIn F d P ops Q (o :: rest) a w := by
  refine wpListIn_plain hgd fun K hK => ?_
  obtain ⟨v', w', hr, h2, h3, h4⟩ := app_run (P := P) (w := w) t tx o.type e sz by_ z hT v n cs hO y m news hs hb hl
  unfold Oper.wpIn
  refine ⟨?_, ?_⟩
  · simp [Oper.about, ho, resolve, Target.leads, Sem.run_pure]
  · rw [Oper.semAt_plain F _ _ (by rw [ho]; intro c hc'; cases hc')]
    simp only [execOp, ho, resolve, invoke, builtin, Sem.run_bind, Sem.run_pure, Result.andThen_ok, List.map_toArray, List.map_cons, List.map_nil, hv, hy, hr]
    exact hK _ _ (h v' w' h2 h3 h4)
/-- append(v, y..) of elements written out, which lie in a new block of their own. -/
theorem wpIn_appN {F : Fence} {d : Nat} {P : Program} {w : World} {ops : Array Oper} {rest : List Oper} {o : Oper} {a : Act} {Q : Exit → Act → World → Prop} (hgd : o.guard = none) (s x : Operand) (t : TypeId)
    (ho : o.op = .call { callee := .builtin .append, args := #[s, x], argTypes := #[t, t] }) {e : TypeId} {sz by_ : Nat} {z : Value} (hT : ElemT P t e sz by_ z)
    {n m : Nat} {cs : List Value} {v : Value} {ys : Array Value} (hO : OwnR w v e sz n cs) (hv : a.eval s = v) {N : Nat} (hx : a.eval x = .slice (some ⟨N, 0, none⟩) m m) (hN : N = w.heap.size) (hm : ys.size = m * sz) (h1 : ∀ u ∈ ys.toList, u.oneCell' = true)
    (hb : (n + m) * by_ ≤ 140737488355328) (hl : n + m ≤ 9223372036854775807)
    (h : ∀ v' w', OwnR w' v' e sz (n + m) (cs ++ ys.toList) → w.grownBy w' v.ownBlock → (v'.ownBlock = v.ownBlock ∨ ∃ g, v'.ownBlock = some g ∧ w.heap.size ≤ g) → wpListIn F d P ops Q rest (a.put o.dst v') w') :
    wpListIn F d P ops Q (o :: rest) a (w.alloc (.cells ys e)) := by
  subst hN
  refine wpIn_app hgd s x t t ho hT (hO.fr ((Fr.refl [] w).alloc _) (fun _ _ => by simp)) hv (src_new (cs := ys) hT.und hm h1) hx hb hl ?_
  intro v' w' h2 h3 h4
  refine h v' w' h2 ⟨h3.os, h3.tape, h3.output, by have := h3.size; simp at this; omega, fun k hk hn => ?_⟩ ?_
  · rw [h3.block k (by simp; omega) hn]; exact Below.heap_alloc w _ k hk
  · rcases h4 with h4 | ⟨g, hg, hge⟩
    · exact .inl h4
    · exact .inr ⟨g, hg, by simp at hge; omega⟩

/-- Blocks in B lie as they lay; no block has gone. -/
structure Lies (B : List Nat) (w w' : World) : Prop where
  size : w.heap.size ≤ w'.heap.size
  same : ∀ k, k ∈ B → w'.heap[k]? = w.heap[k]?
theorem Fr.lies {S B : List Nat} {w w' : World} (h : Fr S w w') (hB : ∀ k, k ∈ B → k < w.heap.size ∧ k ∉ S) : Lies B w w' := ⟨h.size, fun k hk => h.same k (hB k hk).1 (hB k hk).2⟩
theorem Fr.putObj {S : List Nat} {a w : World} (h : Fr S a w) {l : Nat} (hl : l ∈ S ∨ a.heap.size ≤ l) (o : Obj) : Fr S a (w.putObj l o) :=
  h.then (T := [l]) ⟨rfl, rfl, rfl, by simp, fun k hk hn => World.putObj_heap_other (by simpa using hn)⟩ (by simpa using hl)

/-- What an iterator (function gf, its captured values lb) owes: it hands the elements xs to yield, one by one; it may turn its own blocks B alone; a body must leave these. -/
def Iter {α : Type} (P : Program) (gf : Nat) (lb : Array Value) (encs : α → Array Value) (B C : List Nat) (xs : List α) (w : World) : Prop :=
  ∀ (l : Nat) (J Jx : List α → World → Prop) (W : World), Fr [] w W →
    (∀ pre x rest W1, J pre W1 → xs = pre ++ x :: rest → YieldAt Fence.wide 0 P l (encs x) W1 fun e W' => Lies (B ++ C) W1 W' ∧ ((e = .returned (.bool true) ∧ J (pre ++ [x]) W') ∨ (e = .returned (.bool false) ∧ Jx (pre ++ [x]) W'))) →
    (∀ pre W1 W2, J pre W1 → Fr B W1 W2 → J pre W2) → (∀ pre W1 W2, Jx pre W1 → Fr B W1 W2 → Jx pre W2) → J [] W →
    CallsIn Fence.wide 0 P gf (#[.func (.yield l) #[] #[]] ++ lb) W fun e W' => (∃ v, e = .returned v) ∧ (J xs W' ∨ ∃ pre, pre <+: xs ∧ Jx pre W')

/-- How the body of a round may be left. -/
def rgPost {α : Type} (B : List Nat) (I : List α → World → Prop) (Ix : Code → List α → World → Prop) (xs : List α) (W : World) : Exit → Act → World → Prop
  | .normal, _, W' => Lies B W W' ∧ I xs W'
  | .ret, _, W' => Lies B W W' ∧ Ix .ret xs W'
  | .exit id, _, W' => Lies B W W' ∧ Ix (.exit id) xs W'
  | _, _, _ => False

theorem wide_fn (f : FuncId) : Fence.wide.fn f := trivial

theorem range_law {α : Type} {P : Program} {g : Operand} {ps : Array Tmp} {assign body : Code} {Q : Exit → Act → World → Prop} {a : Act} {w : World}
    {gf : Nat} {lb : Array Value} (hg : a.eval g = .func (.func gf) #[] lb) (eg : ∀ args w, (callFunc gf args).run P w = .ok (.enter gf args) w)
    {encs : α → Array Value} {B C : List Nat} {xs : List α} (hit : Iter P gf lb encs B C xs w) (hB : ∀ k, k ∈ B ++ C → k < w.heap.size) (hps : ∀ x, (encs x).size = ps.size)
    (I : List α → World → Prop) (Ix : Code → List α → World → Prop)
    (hI : ∀ pre W1 W2, I pre W1 → Fr (w.heap.size :: (w.heap.size + 1) :: B) W1 W2 → I pre W2) (hIx : ∀ c pre W1 W2, Ix c pre W1 → Fr (w.heap.size :: (w.heap.size + 1) :: B) W1 W2 → Ix c pre W2)
    (h0 : ∀ W, Fr [] w W → I [] W) (a₁ : α → Act)
    (hassign : ∀ (l : Nat) (x : α) (W : World) (K : Act → World → Prop), K (a₁ x) W →
      assign.wpIn (Fence.wide.inRound l) 0 P (Exit.then K (fun _ _ _ => False)) { tmps := (ps.zip (encs x)).foldl (fun t (p, v) => t.setIfInBounds p v) a.tmps, defers := [] } W)
    (hbody : ∀ (l : Nat) (pre : List α) (x : α) (rest : List α) (W : World), xs = pre ++ x :: rest → I pre W → w.heap.size + 2 ≤ W.heap.size →
      body.wpIn (Fence.wide.inRound l) 0 P (rgPost (w.heap.size :: (w.heap.size + 1) :: (B ++ C)) I Ix (pre ++ [x]) W) (a₁ x) W)
    (hdone : ∀ (W : World), I xs W → W.heap[w.heap.size]? = some (.deferred (some [])) → w.heap.size + 2 ≤ W.heap.size → Q .normal { a with defers := { target := .collected w.heap.size, args := #[] } :: a.defers } W)
    (hstop : ∀ (c : Code) (pre : List α) (W : World), pre <+: xs → Ix c pre W → W.heap[w.heap.size]? = some (.deferred (some [])) → w.heap.size + 2 ≤ W.heap.size → c.wpIn Fence.wide 0 P Q { a with defers := { target := .collected w.heap.size, args := #[] } :: a.defers } W) :
    (Code.rangeFunc g ps assign body).wpIn Fence.wide 0 P Q a w := by
  refine wpIn_rangeFunc ?_
  intro fn hfn
  obtain ⟨rec, hrec⟩ : ∃ rec : LoopState → Option Code → Loop, rec = fun st pe => { state := st, pending := pe, fn, tmps := a.tmps, params := ps, assign, body, defers := w.heap.size } := ⟨_, rfl⟩
  obtain ⟨W1, hW1⟩ : ∃ W1, (w.alloc (.deferred (some []))).alloc (.loop (rec .ready none)) = W1 := ⟨_, rfl⟩
  have hF1 : Fr [] w W1 := by rw [← hW1]; exact ((Fr.refl [] w).alloc _).alloc _
  have hz1 : W1.heap.size = w.heap.size + 2 := by rw [← hW1]; simp
  have hL1 : W1.heap[w.heap.size + 1]? = some (.loop (rec .ready none)) := by
    rw [← hW1]; have := World.alloc_heap_new (w.alloc (.deferred (some []))) (.loop (rec .ready none)); rwa [World.size_alloc] at this
  have hK1 : W1.heap[w.heap.size]? = some (.deferred (some [])) := by
    rw [← hW1]; exact (Below.heap_alloc _ _ _ (by simp)).trans (World.alloc_heap_new w _)
  refine ⟨w.heap.size + 1, [{ target := .collected w.heap.size, args := #[] }], W1, { target := .fn (.func gf) lb, args := #[.func (.yield (w.heap.size + 1)) #[] #[]] }, W1, gf,
    #[.func (.yield (w.heap.size + 1)) #[] #[]] ++ lb, W1, ?_, ?_, ?_, ?_, (fun h => by cases h), ?_⟩
  · rw [← hW1, hrec]; exact run_enterLoop_outer _ _ _ _ _
  · simp only [resolve, hg]
    simp [go_sem]
  · intro f' _; trivial
  · simp [invoke, go_sem, eg]
  · have hst : ∀ {W2 W3 : World}, Fr B W2 W3 → w.heap.size + 2 ≤ W2.heap.size → W3.heap[w.heap.size + 1]? = W2.heap[w.heap.size + 1]? ∧ W3.heap[w.heap.size]? = W2.heap[w.heap.size]? := fun f hz =>
      ⟨f.same _ (by omega) (fun h => by have := hB _ (List.mem_append_left _ h); omega), f.same _ (by omega) (fun h => by have := hB _ (List.mem_append_left _ h); omega)⟩
    refine (hit (w.heap.size + 1)
      (fun pre W => I pre W ∧ W.heap[w.heap.size + 1]? = some (.loop (rec .ready none)) ∧ W.heap[w.heap.size]? = some (.deferred (some [])) ∧ w.heap.size + 2 ≤ W.heap.size)
      (fun pre W => ∃ c, Ix c pre W ∧ W.heap[w.heap.size + 1]? = some (.loop (rec .done (some c))) ∧ W.heap[w.heap.size]? = some (.deferred (some [])) ∧ w.heap.size + 2 ≤ W.heap.size)
      W1 hF1 ?_
      (fun pre W2 W3 h f => by
        obtain ⟨hi, hl, hk, hz⟩ := h
        exact ⟨hI _ _ _ hi (f.mono (fun x hx => .inl (by simp [hx]))), (hst f hz).1.trans hl, (hst f hz).2.trans hk, Nat.le_trans hz f.size⟩)
      (fun pre W2 W3 h f => by
        obtain ⟨c, hi, hl, hk, hz⟩ := h
        exact ⟨c, hIx _ _ _ _ hi (f.mono (fun x hx => .inl (by simp [hx]))), (hst f hz).1.trans hl, (hst f hz).2.trans hk, Nat.le_trans hz f.size⟩)
      ⟨h0 _ hF1, hL1, hK1, by omega⟩).mono ?_
    · rintro pre x rest W ⟨hi, hl, hk, hz⟩ hx
      have hlt : w.heap.size + 1 < W.heap.size := by omega
      have hy := run_yield (P := P) (args := encs x) hl (by rw [hrec]; exact hps x)
      rw [hrec] at hy
      refine ⟨fn, _, assign, body, hy, roundIn_of_wpIn hfn (hassign _ x W _ ⟨_, run_beginRound hl (by rw [hrec]), ?_⟩)⟩
      obtain ⟨Wb, hWb⟩ : ∃ Wb, W.putObj (w.heap.size + 1) (.loop { rec .ready none with state := .busy }) = Wb := ⟨_, rfl⟩
      have hFb : Fr (w.heap.size :: (w.heap.size + 1) :: B) W Wb := by rw [← hWb]; exact (Fr.refl _ _).putObj (.inl (by simp)) _
      have hl2 : Wb.heap[w.heap.size + 1]? = some (.loop { rec .ready none with state := .busy }) := by rw [← hWb]; exact World.putObj_heap_same hlt
      have hk2 : Wb.heap[w.heap.size]? = some (.deferred (some [])) := by rw [← hWb]; exact (World.putObj_heap_other (by omega)).trans hk
      have hBb : ∀ k, k ∈ B ++ C → Wb.heap[k]? = W.heap[k]? := fun k hk => by rw [← hWb]; exact World.putObj_heap_other (by have := hB k hk; omega)
      have hzb : w.heap.size + 2 ≤ Wb.heap.size := Nat.le_trans hz hFb.size
      have fin : ∀ (jump : Option Code) (W3 : World), Lies (w.heap.size :: (w.heap.size + 1) :: (B ++ C)) Wb W3 →
          ∃ W4, (Instr.endRound (w.heap.size + 1) jump).run P W3 = .ok (.bool jump.isNone) W4 ∧ Fr (w.heap.size :: (w.heap.size + 1) :: B) W3 W4 ∧ Lies (B ++ C) W W4 ∧
          W4.heap[w.heap.size + 1]? = some (.loop (rec (if jump.isNone then .ready else .done) jump)) ∧ W4.heap[w.heap.size]? = some (.deferred (some [])) ∧ w.heap.size + 2 ≤ W4.heap.size := fun jump W3 hk3 => by
        have hl3 := (hk3.same (w.heap.size + 1) (by simp)).trans hl2
        have hr := run_endRound (P := P) jump hl3
        have hz3 := hk3.size
        have hlt3 : w.heap.size + 1 < W3.heap.size := by omega
        rw [hrec] at hr ⊢
        refine ⟨_, hr, (Fr.refl _ _).putObj (.inl (by simp)) _, ⟨?_, fun k hk => ?_⟩, World.putObj_heap_same hlt3, (World.putObj_heap_other (by omega)).trans ((hk3.same _ (by simp)).trans hk2), by simp; omega⟩
        · have := hFb.size; simp; omega
        · rw [World.putObj_heap_other (by have := hB k hk; omega), hk3.same k (List.mem_cons_of_mem _ (List.mem_cons_of_mem _ hk)), hBb k hk]
      rw [hWb]
      refine wpIn_mono (hbody _ pre x rest Wb hx (hI _ _ _ hi hFb) hzb) ?_
      rintro e a3 W3 hp
      cases e with
      | normal =>
        obtain ⟨hk3, hi3⟩ := hp
        obtain ⟨W4, hr, hf, hlB, hl4, hk4, hz4⟩ := fin none W3 hk3
        exact ⟨_, _, hr, hlB, .inl ⟨rfl, hI _ _ _ hi3 hf, hl4, hk4, hz4⟩⟩
      | ret =>
        obtain ⟨hk3, hi3⟩ := hp
        obtain ⟨W4, hr, hf, hlB, hl4, hk4, hz4⟩ := fin (some .ret) W3 hk3
        exact ⟨_, _, hr, hlB, .inr ⟨rfl, .ret, hIx _ _ _ _ hi3 hf, hl4, hk4, hz4⟩⟩
      | exit id =>
        obtain ⟨hk3, hi3⟩ := hp
        obtain ⟨W4, hr, hf, hlB, hl4, hk4, hz4⟩ := fin (some (.exit id)) W3 hk3
        exact ⟨_, _, hr, hlB, .inr ⟨rfl, .exit id, hIx _ _ _ _ hi3 hf, hl4, hk4, hz4⟩⟩
      | goto t => exact hp.elim
      | panic ch => exact hp.elim
      | outgrown => exact hp.elim
    · rintro e W2 ⟨⟨v, rfl⟩, (⟨hi, hl, hk, hz⟩ | ⟨pre, hpre, c, hi, hl, hk, hz⟩)⟩
      · have := run_endLoop (P := P) hl (by rw [hrec]; simp)
        refine ⟨none, _, by rw [hrec] at this; exact this, hdone _ (hI _ _ _ hi ((Fr.refl _ _).putObj (.inl (by simp)) _)) ((World.putObj_heap_other (by omega)).trans hk) (by simp; omega)⟩
      · have := run_endLoop (P := P) hl (by rw [hrec]; simp)
        refine ⟨some c, _, by rw [hrec] at this; exact this, hstop c pre _ hpre (hIx _ _ _ _ hi ((Fr.refl _ _).putObj (.inl (by simp)) _)) ((World.putObj_heap_other (by omega)).trans hk) (by simp; omega)⟩
/-- The same; the frame behind the assignment to the loop's variables is found by walking it. -/
theorem range_law' {α : Type} {P : Program} {g : Operand} {ps : Array Tmp} {assign body : Code} {Q : Exit → Act → World → Prop} {a : Act} {w : World}
    {gf : Nat} {lb : Array Value} (hg : a.eval g = .func (.func gf) #[] lb) (eg : ∀ args w, (callFunc gf args).run P w = .ok (.enter gf args) w)
    {encs : α → Array Value} {B C : List Nat} {xs : List α} (hit : Iter P gf lb encs B C xs w) (hB : ∀ k, k ∈ B ++ C → k < w.heap.size) (hps : ∀ x, (encs x).size = ps.size)
    (I : List α → World → Prop) (Ix : Code → List α → World → Prop)
    (hI : ∀ pre W1 W2, I pre W1 → Fr (w.heap.size :: (w.heap.size + 1) :: B) W1 W2 → I pre W2) (hIx : ∀ c pre W1 W2, Ix c pre W1 → Fr (w.heap.size :: (w.heap.size + 1) :: B) W1 W2 → Ix c pre W2)
    (h0 : ∀ W, Fr [] w W → I [] W)
    (hab : ∃ a₁ : α → Act,
      (∀ (l : Nat) (x : α) (W : World) (K : Act → World → Prop), K (a₁ x) W →
        assign.wpIn (Fence.wide.inRound l) 0 P (Exit.then K (fun _ _ _ => False)) { tmps := (ps.zip (encs x)).foldl (fun t (p, v) => t.setIfInBounds p v) a.tmps, defers := [] } W) ∧
      (∀ (l : Nat) (pre : List α) (x : α) (rest : List α) (W : World), xs = pre ++ x :: rest → I pre W → w.heap.size + 2 ≤ W.heap.size →
        body.wpIn (Fence.wide.inRound l) 0 P (rgPost (w.heap.size :: (w.heap.size + 1) :: (B ++ C)) I Ix (pre ++ [x]) W) (a₁ x) W))
    (hdone : ∀ (W : World), I xs W → W.heap[w.heap.size]? = some (.deferred (some [])) → w.heap.size + 2 ≤ W.heap.size → Q .normal { a with defers := { target := .collected w.heap.size, args := #[] } :: a.defers } W)
    (hstop : ∀ (c : Code) (pre : List α) (W : World), pre <+: xs → Ix c pre W → W.heap[w.heap.size]? = some (.deferred (some [])) → w.heap.size + 2 ≤ W.heap.size → c.wpIn Fence.wide 0 P Q { a with defers := { target := .collected w.heap.size, args := #[] } :: a.defers } W) :
    (Code.rangeFunc g ps assign body).wpIn Fence.wide 0 P Q a w := by
  obtain ⟨a₁, h1, h2⟩ := hab
  exact range_law hg eg hit hB hps I Ix hI hIx h0 a₁ h1 h2 hdone hstop
#print axioms range_law
end Bpm
