/- Regions that draw their order, where some operations write: an operation that reads may be taken first, as long as what runs ahead of it keeps what it reads; and such a region within a round of a range over a function. -/
import Derived.Test.YtdjkkpefljapcaaLib
import Derived.OrdersIn
import Derived.RangeFuncCalls
import Derived.TacticsIn
namespace Go.Proofs.Ytdjkkpefljapcaa
open Go

section
variable {P : Program} {ops : Array Oper} {Q : Exit → Act → World → Prop} {md : Region.Mode} {Kp : Nat → World → World → Prop}

/-- Operation number i comes up. -/
def sOp (P : Program) (ops : Array Oper) (Q : Exit → Act → World → Prop) (i : Nat) (K : Act → World → Prop) (a : Act) (w : World) : Prop :=
  match ops[i]? with
  | none => K a w
  | some o => if Region.wanted o (yielded ops a.tmps) then o.wp P a w K Q else K (a.put o.dst undef) w

theorem sOp_mono {i : Nat} {a : Act} {w : World} {K K' : Act → World → Prop} (h : ∀ a w, K a w → K' a w) (hh : sOp P ops Q i K a w) : sOp P ops Q i K' a w := by
  unfold sOp at *
  split
  · exact h _ _ (by simpa [*] using hh)
  · rename_i o ho
    simp only [ho] at hh
    split
    · rename_i hw; simp only [hw, if_true] at hh; exact Oper.wp_mono h hh
    · rename_i hw; simp only [hw] at hh; exact h _ _ hh

/-- Whatever order is picked; each step i from w to w' keeps what 'Kp i w w'' says. -/
def wpAnyT (P : Program) (md : Region.Mode) (ops : Array Oper) (Q : Exit → Act → World → Prop) (Kp : Nat → World → World → Prop) : Nat → Array Bool → Act → World → Prop
  | 0, listed, a, w => Region.ready md ops listed = [] ∧ Q .normal a w
  | fuel + 1, listed, a, w =>
    (Region.ready md ops listed = [] → Q .normal a w) ∧
    ∀ i ∈ Region.ready md ops listed, sOp P ops Q i (fun a' w' => Kp i w w' ∧ wpAnyT P md ops Q Kp fuel (listed.setIfInBounds i true) a' w') a w

theorem wpAny_of_T : ∀ (fuel : Nat) (listed : Array Bool) (a : Act) (w : World), wpAnyT P md ops Q Kp fuel listed a w → wpAny P md ops Q fuel listed a w
  | 0, _, _, _, h => h
  | fuel + 1, listed, a, w, h => ⟨h.1, fun i hi => by
      have h1 := sOp_mono (fun a' w' h2 => wpAny_of_T fuel (listed.setIfInBounds i true) a' w' h2.2) (h.2 i hi)
      unfold sOp at h1
      unfold wpOp
      split
      · rename_i ho; simp only [ho] at h1; exact h1
      · rename_i o ho
        simp only [ho] at h1
        split
        · rename_i hw; simp only [hw, if_true] at h1; exact .inl h1
        · rename_i hw; simp only [hw] at h1; exact h1⟩

/-- A region that draws, out of a round. -/
theorem wp_region_T {id : Nat} {a : Act} {w : World} {l : List Oper} (m : Nat) (Kp : Nat → World → World → Prop) (hm : P.follows .mixedOrders = true) (hL : l.toArray.size = m)
    (h : wpAnyT P .any l.toArray Q Kp m (Array.replicate m false) a w.drew) : (Code.region id l.toArray true).wp P Q a w :=
  wp_region_any hm (wpAny_of_T _ _ _ _ (by subst hL; exact h))

/-- It comes to its end. -/
def onlyN (Q : Exit → Act → World → Prop) : Exit → Act → World → Prop := fun e a w => e = .normal ∧ Q .normal a w
theorem wp_region_TN {id : Nat} {a : Act} {w : World} {l : List Oper} (m : Nat) (Kp : Nat → World → World → Prop) (hm : P.follows .mixedOrders = true) (hL : l.toArray.size = m)
    (h : wpAnyT P .any l.toArray (onlyN Q) Kp m (Array.replicate m false) a w.drew) : (Code.region id l.toArray true).wp P Q a w :=
  Code.wp_mono (fun e a w hq => by obtain ⟨rfl, hq⟩ := hq; exact hq) (wp_region_T m Kp hm hL h)
theorem onlyN_panic {a b : Act} {c : List PanicEntry} {w w' : World} (h : onlyN Q (.panic c) a w) : onlyN Q (.panic c) b w' := by cases h.1

/-! ### the same within a round -/
def sOps (P : Program) (ops : Array Oper) (Q : Exit → Act → World → Prop) : List Nat → Act → World → Prop
  | [], a, w => Q .normal a w
  | i :: rest, a, w => sOp P ops Q i (sOps P ops Q rest) a w

theorem sOps_of_T : ∀ (fuel t : Nat) (listed : Array Bool) (a : Act) (w : World), wpAnyT P md ops Q Kp fuel listed a w → sOps P ops Q (Region.linearise.go md ops fuel t listed []) a w := by
  intro fuel
  induction fuel with
  | zero => intro t listed a w h; simpa [Region.linearise.go, sOps] using h.2
  | succ fuel ih =>
    intro t listed a w h
    obtain ⟨h₀, h₁⟩ := h
    simp only [Region.linearise.go]
    change sOps P ops Q (match (Region.ready md ops listed)[t % (Region.ready md ops listed).length]? with
      | some i => Region.linearise.go md ops fuel (t / (Region.ready md ops listed).length) (listed.setIfInBounds i true) [i]
      | none => [].reverse) a w
    cases hi : (Region.ready md ops listed)[t % (Region.ready md ops listed).length]? with
    | none =>
      have hnil : Region.ready md ops listed = [] := by
        cases hr : Region.ready md ops listed with
        | nil => rfl
        | cons x xs =>
          rw [hr] at hi
          have hlt : t % (x :: xs).length < (x :: xs).length := Nat.mod_lt _ (by simp)
          simp at hi
          simp at hlt
          omega
      simpa [sOps] using h₀ hnil
    | some i =>
      simp only []
      rw [linearise_go_acc, List.reverse_singleton, List.singleton_append]
      exact sOp_mono (fun a w h => ih _ _ a w h.2) (h₁ i (List.mem_of_getElem? hi))

theorem sOp_in {n i l : Nat} {K : Act → World → Prop} {a : Act} {w : World} (hd : ∀ (o : Oper) (c : Call), ops[i]? = some o → o.op ≠ .defer c) (h : sOp P ops Q i K a w) : wpOpIn (Fence.wide.inRound l) n P ops Q i K a w := by
  unfold sOp at h
  unfold wpOpIn
  split
  · rename_i ho; simp only [ho] at h; exact h
  · rename_i o ho
    simp only [ho] at h
    split
    · rename_i hw
      simp only [hw, if_true] at h
      unfold Oper.wp at h
      refine ⟨fun _ _ => trivial, ?_⟩
      rw [show (Fence.wide.inRound l).round = some l from rfl, Oper.semAt_some l _ o (fun c => hd o c ho)]
      generalize (execOp a.eval o).run P w = r at *
      cases r with
      | ok x w' =>
        cases x <;> simp only [Oper.upon] at h <;> simp only [Oper.uponIn]
        case value v => exact h
        case skip => exact h
        case defer d => exact h
        case enter f args => exact ⟨fun e => (by cases e), (CallsIn.inRound l (callsIn_wide.2 h))⟩
        case row row args => exact ⟨fun e => (by cases e), fun c cs _ => let ⟨v, w'', r, s⟩ := h c cs; ⟨v, w'', r, stepsIn_wide.2 s⟩⟩
      | halt x w' => cases x <;> simp only [Oper.upon] at h <;> simp only [Oper.uponIn]; exact h
    · rename_i hw; simp only [hw] at h; exact ⟨fun _ _ => trivial, h⟩

theorem sOps_in {n l : Nat} (hd : ∀ (i : Nat) (o : Oper) (c : Call), ops[i]? = some o → o.op ≠ .defer c) : ∀ (L : List Nat) (a : Act) (w : World), sOps P ops Q L a w → wpOpsIn (Fence.wide.inRound l) n P ops Q L a w
  | [], _, _, h => h
  | i :: rest, a, w, h => by
    rw [wpOpsIn_cons]
    exact wpOpIn_mono (fun a' w' => sOps_in hd rest a' w') (sOp_in (hd i) h)

def noDefer (ops : Array Oper) : Bool := ops.all fun o => match o.op with | .defer .. => false | _ => true
theorem noDefer_spec (h : noDefer ops = true) (j : Nat) (o : Oper) (c : Call) (ho : ops[j]? = some o) : o.op ≠ .defer c := by
  intro heq
  have := Array.all_eq_true_iff_forall_mem.1 h o (Array.mem_of_getElem? ho)
  simp [heq] at this

/-- A region that draws, in a round. -/
theorem wpIn_region_T {n id l : Nat} {a : Act} {w : World} {L : List Oper} (m : Nat) (Kp : Nat → World → World → Prop) (hm : P.follows .mixedOrders = true) (hd : noDefer L.toArray = true) (hL : L.toArray.size = m)
    (h : wpAnyT P .any L.toArray Q Kp m (Array.replicate m false) a w.drew) : (Code.region id L.toArray true).wpIn (Fence.wide.inRound l) n P Q a w :=
  wpIn_region_draw fun t => by
    subst hL
    simp only [Region.schedule, hm, Bool.true_or, if_true]
    exact sOps_in (noDefer_spec hd) _ _ _ (sOps_of_T L.toArray.size t _ a _ h)

/-! ### reads are taken first -/
/-- In every world of the class the operation hands back v, and changes nothing. -/
def YieldsC (P : Program) (ops : Array Oper) (C : World → Prop) (o : Oper) (v : Value) (a : Act) : Prop :=
  (Region.wanted o (yielded ops a.tmps) = true ∧ ∀ w, C w → (execOp a.eval o).run P w = .ok (.value v) w) ∨
  (Region.wanted o (yielded ops a.tmps) = false ∧ v = undef)

theorem YieldsC.sOp {C : World → Prop} {i : Nat} {o : Oper} {v : Value} {a : Act} (hi : ops[i]? = some o) (hy : YieldsC P ops C o v a) {K : Act → World → Prop} {w : World} (hw : C w) (h : K (a.put o.dst v) w) : sOp P ops Q i K a w := by
  unfold Ytdjkkpefljapcaa.sOp
  simp only [hi]
  rcases hy with ⟨h1, hv⟩ | ⟨h1, rfl⟩
  · simp only [h1, if_true, Oper.wp, hv w hw, Oper.upon]; exact h
  · simp only [h1, Bool.false_eq_true, if_false]; exact h

theorem YieldsC.of_same {C : World → Prop} {o : Oper} {v : Value} {a a' : Act} (hy : YieldsC P ops C o v a) (he : execOp a'.eval o = execOp a.eval o)
    (hw : Region.wanted o (yielded ops a'.tmps) = Region.wanted o (yielded ops a.tmps)) : YieldsC P ops C o v a' := by
  unfold YieldsC at *
  rw [he, hw]
  exact hy

theorem sOp_put {C : World → Prop} {j : Nat} {oi oj : Oper} {v : Value} (hj : ops[j]? = some oj) (hap : oi.apart ops oj = true)
    (hsi : ∀ cs b, oi.op ≠ .select cs b) (hsj : ∀ cs b, oj.op ≠ .select cs b)
    (hQ : ∀ c a w, Q (.panic c) (a.put oi.dst v) w → Q (.panic c) a w) {K : Act → World → Prop} {a : Act} {w : World}
    (hy : YieldsC P ops C oi v a) (h : sOp P ops Q j K (a.put oi.dst v) w) :
    sOp P ops Q j (fun a' w' => YieldsC P ops C oi v a' ∧ K (a'.put oi.dst v) w') a w := by
  obtain ⟨h1, h2, h3⟩ := Oper.apart_spec hap
  have keep : ∀ (a : Act), YieldsC P ops C oi v a → ∀ u, YieldsC P ops C oi v (a.put oj.dst u) := fun a hy u =>
    hy.of_same (execOp_put oi hsi a oj.dst u h3) (wanted_put oi a oj.dst u h3)
  have keepD : ∀ d, YieldsC P ops C oi v { a with defers := d :: a.defers } := fun d => hy.of_same rfl rfl
  unfold sOp at *
  simp only [hj] at *
  rw [wanted_put oj a oi.dst v h1] at h
  split
  · rename_i hw
    simp only [hw, if_true] at h
    unfold Oper.wp at *
    rw [execOp_put oj hsj a oi.dst v h1] at h
    generalize (execOp a.eval oj).run P w = r at *
    cases r with
    | ok n w' =>
      cases n <;> simp only [Oper.upon] at h ⊢
      case value u => exact ⟨keep a hy u, by rw [← Act.put_comm a v u h2]; exact h⟩
      case skip => exact ⟨keep a hy _, by rw [← Act.put_comm a v undef h2]; exact h⟩
      case defer d =>
        refine ⟨keep _ (keepD d) _, ?_⟩
        rw [← Act.put_comm _ v undef h2, ← Act.put_defers]
        exact h
      case enter f args =>
        refine Calls.mono h fun e w'' he => ?_
        cases e with
        | returned u => exact ⟨keep a hy u, by rw [← Act.put_comm a v u h2]; exact he⟩
        | panicked c => exact hQ _ _ _ he
        | outgrown => exact he
      case row row args => exact Rows.mono h fun u w'' he => ⟨keep a hy u, by rw [← Act.put_comm a v u h2]; exact he⟩
    | halt x w' =>
      cases x <;> simp only [Oper.upon] at h ⊢
      case panic u => exact hQ _ _ _ h
  · rename_i hw
    simp only [hw] at h
    exact ⟨keep a hy _, by rw [← Act.put_comm a v undef h2]; exact h⟩

theorem wpAnyT_first {C : World → Prop} {i : Nat} {oi : Oper} {v : Value} (hi : ops[i]? = some oi) (hsel : ∀ (j : Nat) (o : Oper) cs b, ops[j]? = some o → o.op ≠ .select cs b)
    (hQ : ∀ c a w, Q (.panic c) (a.put oi.dst v) w → Q (.panic c) a w) (hrefl : ∀ w, Kp i w w)
    (hK : ∀ (j : Nat) (oj : Oper), ops[j]? = some oj → j ≠ i → (∀ e ∈ oj.after, Region.binds md e = true → e.on ≠ i) → ∀ w w', Kp j w w' → C w → C w') :
    ∀ (fuel : Nat) (listed : Array Bool) (a : Act) (w : World),
      (∀ j oj, ops[j]? = some oj → j ≠ i → listed.getD j true = false → (∀ e ∈ oj.after, Region.binds md e = true → e.on ≠ i) → oi.apart ops oj = true) →
      i ∈ Region.ready md ops listed → YieldsC P ops C oi v a → C w →
      wpAnyT P md ops Q Kp fuel (listed.setIfInBounds i true) (a.put oi.dst v) w → wpAnyT P md ops Q Kp (fuel + 1) listed a w := by
  intro fuel
  induction fuel with
  | zero =>
    intro listed a w _ hr hy hw H
    refine ⟨fun h => (by rw [h] at hr; cases hr), fun j hj => ?_⟩
    by_cases hji : j = i
    · subst hji; exact hy.sOp hi hw ⟨hrefl _, H⟩
    · have := ready_mono hj hji
      rw [H.1] at this
      cases this
  | succ fuel ih =>
    intro listed a w hfree hr hy hw H
    refine ⟨fun h => (by rw [h] at hr; cases hr), fun j hj => ?_⟩
    by_cases hji : j = i
    · subst hji; exact hy.sOp hi hw ⟨hrefl _, H⟩
    · have h1 := H.2 j (ready_mono hj hji)
      obtain ⟨hjun, oj, hoj, hall⟩ := mem_ready.1 hj
      have hnot : ∀ e ∈ oj.after, Region.binds md e = true → e.on ≠ i := fun e he hb heq => by
        have h1 := hall e he hb
        have h0 := (mem_ready.1 hr).1
        rw [heq] at h1
        rcases Nat.lt_or_ge i listed.size with h' | h'
        · simp [h'] at h0 h1; rw [h0] at h1; cases h1
        · simp [Array.getElem?_eq_none h'] at h1
      have h2 := sOp_put hoj (hfree j oj hoj hji hjun hnot) (fun cs b => hsel i oi cs b hi) (fun cs b => hsel j oj cs b hoj) hQ hy h1
      have hfree' : ∀ k ok, ops[k]? = some ok → k ≠ i → (listed.setIfInBounds j true).getD k true = false →
          (∀ e ∈ ok.after, Region.binds md e = true → e.on ≠ i) → oi.apart ops ok = true := fun k ok hk hki hun hno => by
        refine hfree k ok hk hki ?_ hno
        by_cases hjk : j = k
        · subst hjk; exact hjun
        · rw [getD_set_ne true hjk] at hun; exact hun
      refine sOp_mono (fun a' w' h3 => ⟨h3.2.1, ih (listed.setIfInBounds j true) a' w' hfree' (ready_mono hr (Ne.symm hji)) h3.1 (hK j oj hoj hji hnot w w' h3.2.1 hw) ?_⟩) h2
      rw [Array.setIfInBounds_comm _ _ hji]
      exact h3.2.2

/-- Operation i is taken first: C: the worlds in which it hands back v. -/
theorem T_take (C : World → Prop) (i : Nat) (v : Value) {oi : Oper} {fuel : Nat} {listed : Array Bool} {a : Act} {w : World} (hi : ops[i]? = some oi) (hg : oi.guard = none) (hsel : Region.noSelect ops = true) (hr : (Region.ready md ops listed).contains i = true) (hf : Region.free md ops listed i = true)
    (hQ : ∀ c a w, Q (.panic c) (a.put oi.dst v) w → Q (.panic c) a w) (hrefl : ∀ w, Kp i w w)
    (hK : ∀ (j : Nat) (oj : Oper), ops[j]? = some oj → j ≠ i → (∀ e ∈ oj.after, Region.binds md e = true → e.on ≠ i) → ∀ w w', Kp j w w' → C w → C w')
    (hw : C w) (hv : ∀ w, C w → (execOp a.eval oi).run P w = .ok (.value v) w)
    (h : wpAnyT P md ops Q Kp fuel (listed.setIfInBounds i true) (a.put oi.dst v) w) : wpAnyT P md ops Q Kp (fuel + 1) listed a w :=
  wpAnyT_first hi (Region.noSelect_spec hsel) hQ hrefl hK fuel listed a w (Region.free_spec hi hf) (by simpa using hr) (.inl ⟨by simp [Region.wanted, hg], hv⟩) hw h
/-- .. one that reads no memory. -/
theorem T_calm (i : Nat) (v : Value) {oi : Oper} {fuel : Nat} {listed : Array Bool} {a : Act} {w : World} (hi : ops[i]? = some oi) (hg : oi.guard = none) (hsel : Region.noSelect ops = true) (hr : (Region.ready md ops listed).contains i = true) (hf : Region.free md ops listed i = true)
    (hQ : ∀ c a w, Q (.panic c) (a.put oi.dst v) w → Q (.panic c) a w) (hrefl : ∀ w, Kp i w w) (hv : ∀ w, (execOp a.eval oi).run P w = .ok (.value v) w)
    (h : wpAnyT P md ops Q Kp fuel (listed.setIfInBounds i true) (a.put oi.dst v) w) : wpAnyT P md ops Q Kp (fuel + 1) listed a w :=
  T_take (fun _ => True) i v hi hg hsel hr hf hQ hrefl (fun _ _ _ _ _ _ _ _ _ => trivial) trivial (fun w _ => hv w) h

theorem T_done {fuel : Nat} {listed : Array Bool} {a : Act} {w : World} (hr : Region.ready md ops listed = []) (h : Q .normal a w) : wpAnyT P md ops Q Kp fuel listed a w := by
  cases fuel with
  | zero => exact ⟨hr, h⟩
  | succ f => exact ⟨fun _ => h, fun i hi => by rw [hr] at hi; cases hi⟩
/-- One operation alone may come up. -/
theorem T_one (k : Nat) {fuel : Nat} {listed : Array Bool} {a : Act} {w : World} (hr : Region.ready md ops listed = [k])
    (h : sOp P ops Q k (fun a' w' => Kp k w w' ∧ wpAnyT P md ops Q Kp fuel (listed.setIfInBounds k true) a' w') a w) : wpAnyT P md ops Q Kp (fuel + 1) listed a w := by
  refine ⟨fun e => (by rw [hr] at e; cases e), fun i hi => ?_⟩
  rw [hr, List.mem_singleton] at hi
  subst hi
  exact h
/-- Two may. -/
theorem T_two (j k : Nat) {fuel : Nat} {listed : Array Bool} {a : Act} {w : World} (hr : Region.ready md ops listed = [j, k])
    (hj : sOp P ops Q j (fun a' w' => Kp j w w' ∧ wpAnyT P md ops Q Kp fuel (listed.setIfInBounds j true) a' w') a w)
    (hk : sOp P ops Q k (fun a' w' => Kp k w w' ∧ wpAnyT P md ops Q Kp fuel (listed.setIfInBounds k true) a' w') a w) : wpAnyT P md ops Q Kp (fuel + 1) listed a w := by
  refine ⟨fun e => (by rw [hr] at e; cases e), fun i hi => ?_⟩
  rw [hr] at hi
  simp only [List.mem_cons, List.not_mem_nil, or_false] at hi
  rcases hi with rfl | rfl
  · exact hj
  · exact hk
/-- The operation's own step. -/
theorem sOp_wp {k : Nat} {o : Oper} {K : Act → World → Prop} {a : Act} {w : World} (hk : ops[k]? = some o) (hg : o.guard = none) (h : o.wp P a w K Q) : sOp P ops Q k K a w := by
  unfold sOp
  simp only [hk, Region.wanted, hg, if_true]
  exact h
theorem sOp_value {k : Nat} {o : Oper} {K : Act → World → Prop} {a : Act} {w : World} (v : Value) (w' : World) (hk : ops[k]? = some o) (hg : o.guard = none) (hr : (execOp a.eval o).run P w = .ok (.value v) w') (h : K (a.put o.dst v) w') : sOp P ops Q k K a w :=
  sOp_wp hk hg (by unfold Oper.wp; rw [hr]; exact h)
theorem sOp_skip {k : Nat} {o : Oper} {K : Act → World → Prop} {a : Act} {w : World} (w' : World) (hk : ops[k]? = some o) (hd : o.dst = none) (hg : o.guard = none) (hr : (execOp a.eval o).run P w = .ok .skip w') (h : K a w') : sOp P ops Q k K a w :=
  sOp_wp hk hg (by unfold Oper.wp; rw [hr, Oper.upon_skip, hd]; exact h)
theorem sOp_call {k : Nat} {o : Oper} {K : Act → World → Prop} {a : Act} {w : World} (f : FuncId) (args : Array Value) (hk : ops[k]? = some o) (hg : o.guard = none) (hr : (execOp a.eval o).run P w = .ok (.enter f args) w)
    (h : Calls P f args w fun e w' => ∃ v, e = .returned v ∧ K (a.put o.dst v) w') : sOp P ops Q k K a w :=
  sOp_wp hk hg (by
    unfold Oper.wp
    rw [hr]
    exact h.mono fun e w' he => by obtain ⟨v, rfl, hv⟩ := he; exact hv)
/-! the same where the frame and the slot are written out -/
theorem T_takeD (C : World → Prop) (i d : Nat) (v : Value) {oi : Oper} {fuel : Nat} {listed : Array Bool} {ts : Array Value} {df : List Deferred} {w : World} (hi : ops[i]? = some oi) (hd : oi.dst = some d) (hg : oi.guard = none) (hsel : Region.noSelect ops = true) (hr : (Region.ready md ops listed).contains i = true) (hf : Region.free md ops listed i = true)
    (hQ : ∀ c a w, Q (.panic c) (a.put oi.dst v) w → Q (.panic c) a w) (hrefl : ∀ w, Kp i w w)
    (hK : ∀ (j : Nat) (oj : Oper), ops[j]? = some oj → j ≠ i → (∀ e ∈ oj.after, Region.binds md e = true → e.on ≠ i) → ∀ w w', Kp j w w' → C w → C w')
    (hw : C w) (hv : ∀ w, C w → (execOp ({ tmps := ts, defers := df } : Act).eval oi).run P w = .ok (.value v) w)
    (h : wpAnyT P md ops Q Kp fuel (listed.setIfInBounds i true) { tmps := ts.setIfInBounds d v, defers := df } w) : wpAnyT P md ops Q Kp (fuel + 1) listed { tmps := ts, defers := df } w :=
  T_take C i v hi hg hsel hr hf hQ hrefl hK hw hv (by rw [hd]; exact h)
theorem T_calmD (i d : Nat) (v : Value) {oi : Oper} {fuel : Nat} {listed : Array Bool} {ts : Array Value} {df : List Deferred} {w : World} (hi : ops[i]? = some oi) (hd : oi.dst = some d) (hg : oi.guard = none) (hsel : Region.noSelect ops = true) (hr : (Region.ready md ops listed).contains i = true) (hf : Region.free md ops listed i = true)
    (hQ : ∀ c a w, Q (.panic c) (a.put oi.dst v) w → Q (.panic c) a w) (hrefl : ∀ w, Kp i w w) (hv : ∀ w, (execOp ({ tmps := ts, defers := df } : Act).eval oi).run P w = .ok (.value v) w)
    (h : wpAnyT P md ops Q Kp fuel (listed.setIfInBounds i true) { tmps := ts.setIfInBounds d v, defers := df } w) : wpAnyT P md ops Q Kp (fuel + 1) listed { tmps := ts, defers := df } w :=
  T_calm i v hi hg hsel hr hf hQ hrefl hv (by rw [hd]; exact h)
theorem sOp_valueD {k : Nat} {o : Oper} {K : Act → World → Prop} {ts : Array Value} {df : List Deferred} {w : World} (d : Nat) (v : Value) (w' : World) (hk : ops[k]? = some o) (hd : o.dst = some d) (hg : o.guard = none) (hr : (execOp ({ tmps := ts, defers := df } : Act).eval o).run P w = .ok (.value v) w') (h : K { tmps := ts.setIfInBounds d v, defers := df } w') : sOp P ops Q k K { tmps := ts, defers := df } w :=
  sOp_value v w' hk hg hr (by rw [hd]; exact h)
theorem sOp_callD {k : Nat} {o : Oper} {K : Act → World → Prop} {ts : Array Value} {df : List Deferred} {w : World} (d : Nat) (f : FuncId) (args : Array Value) (hk : ops[k]? = some o) (hd : o.dst = some d) (hg : o.guard = none) (hr : (execOp ({ tmps := ts, defers := df } : Act).eval o).run P w = .ok (.enter f args) w)
    (h : Calls P f args w fun e w' => ∃ v, e = .returned v ∧ K { tmps := ts.setIfInBounds d v, defers := df } w') : sOp P ops Q k K { tmps := ts, defers := df } w :=
  sOp_call f args hk hg hr (h.mono fun e w' ⟨v, he, hK⟩ => ⟨v, he, by rw [hd]; exact hK⟩)
end
end Go.Proofs.Ytdjkkpefljapcaa
