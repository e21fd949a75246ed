/- The contract of journal.Journal.Add. -/
import Derived.Test.YtdjkkpefljapcaaJpl
import Derived.Test.YtdjkkpefljapcaaOrd
import Derived.Test.YtdjkkpefljapcaaLeafG
namespace Go.Proofs.Ytdjkkpefljapcaa
open Go.RowKit Go.Shelf
set_option linter.unusedVariables false
set_option linter.unusedSimpArgs false

/-! ### all blocks but those of a list are as they were -/
def FrX (S : List Nat) (w w' : World) : Prop := ∀ (k t : Nat) (cs : Array Value), k ∉ S → Blk w k t cs → Blk w' k t cs
section
variable {S : List Nat} {w w' w'' : World}
theorem FrX.refl (S : List Nat) (w : World) : FrX S w w := fun _ _ _ _ h => h
theorem FrX.trans (a : FrX S w w') (b : FrX S w' w'') : FrX S w w'' := fun k t cs h hb => b k t cs h (a k t cs h hb)
theorem FrX.of_below (a : Below w.heap.size w w') (S : List Nat) : FrX S w w' := fun k t cs _ hb => hb.below a hb.lt
theorem FrX.of_off {g h : Nat} (o : Off g h w w') (hg : g ∈ S) (hh : h ∈ S) : FrX S w w' := fun k t cs hk hb => o.blk hb (fun e => by subst e; exact hk hg) (fun e => by subst e; exact hk hh)
theorem FrX.setCell (a : FrX S w w') {p : Addr} (hp : p.block ∈ S) (u : Value) : FrX S w (w'.setCell p u) := fun k t cs hk hb => (a k t cs hk hb).far (fun e => by subst e; exact hk hp) u
theorem Blk.turn {k t : Nat} {cs : Array Value} {row : Option Nat} (hb : Blk w k t cs) (hg : w.grownBy w' row) (hr : ∀ r, row = some r → ∃ o : Obj, w.heap[r]? = some o ∧ o.isCells = false) : Blk w' k t cs := by
  refine (hg.block k hb.lt ?_).trans hb
  intro e
  obtain ⟨o, ho, hc⟩ := hr k e.symm
  unfold Blk at hb
  rw [hb] at ho
  injection ho with ho
  subst ho
  cases hc
theorem FrX.turn {row : Option Nat} (a : FrX S w w') (hg : w'.grownBy w'' row) (hr : ∀ r, row = some r → ∃ o : Obj, w'.heap[r]? = some o ∧ o.isCells = false) : FrX S w w'' := fun k t cs hk hb => (a k t cs hk hb).turn hg hr
theorem PadAt.turn {g h : Nat} {p : Pd} {row : Option Nat} (a : PadAt w g h p) (hg : w.grownBy w' row) (hr : ∀ r, row = some r → ∃ o : Obj, w.heap[r]? = some o ∧ o.isCells = false) : PadAt w' g h p := a.keep (fun _ _ b => b.turn hg hr) (fun _ _ b => b.turn hg hr)
theorem Off.others {g h : Nat} {p : Pd} (a : PadAt w g h p) (o : Off g h w w') : KeepsOthers w w' := by
  refine ⟨o.size, fun k ob hk hc => ?_⟩
  refine (o.block k (Array.getElem?_eq_some_iff.1 hk).1 (fun e => ?_) (fun e => ?_)).trans hk
  · subst e
    have := a.head
    unfold Blk at this
    rw [this] at hk
    injection hk with hk
    subst hk
    cases hc
  · subst e
    have := a.row
    unfold Blk at this
    rw [this] at hk
    injection hk with hk
    subst hk
    cases hc
theorem Below.others (o : Below w.heap.size w w') : KeepsOthers w w' := ⟨o.size, fun k ob hk hc => (o.block k (Array.getElem?_eq_some_iff.1 hk).1).trans hk⟩
theorem nums_frx {B n : Nat} {ad : Addr} {bs : List Int} (h : Nums .u8 w B (some ad) n bs) (hn : 0 < n) (a : FrX S w w') (hs : ad.block ∉ S) (hb : ∃ t cs, Blk w ad.block t cs) : Nums .u8 w' B (some ad) n bs := by
  obtain ⟨t, cs, hb⟩ := hb
  have hb' := a _ _ _ hs hb
  have e : w'.heap[ad.block]? = w.heap[ad.block]? := by unfold Blk at hb hb'; rw [hb, hb']
  refine ⟨h.1, fun hn => ?_⟩
  obtain ⟨ad', e', h1, h2⟩ := h.2 hn
  injection e' with e'
  subst e'
  refine ⟨_, rfl, h1, fun i u hu => ?_⟩
  rw [← h2 i u hu]
  exact World.cell?_of_block (by rw [block_of_add]; exact e)
end

theorem own_frx {S : List Nat} {w w' : World} {base size n : Nat} {e : TypeId} {v : Value} {xs : List Value} (h : w.ownsRow base e size v n xs) (a : FrX S w w') (hs : ∀ k, v.ownBlock = some k → k ∉ S) : w'.ownsRow base e size v n xs := by
  refine ⟨h.1, ?_⟩
  rcases h.2 with hn | ⟨g, cap, cur, rfl, hb, hg, rest⟩
  · exact .inl hn
  · exact .inr ⟨g, cap, cur, rfl, hb, a g e cur (hs g rfl) hg, rest⟩
theorem FrX.grown {S : List Nat} {w w' : World} {row : Option Nat} (hg : w.grownBy w' row) (hr : ∀ k, row = some k → k ∈ S) : FrX S w w' := fun k t cs hk hb => hb.grown hg (fun e => hk (hr k e.symm))
theorem FrX.more {S S' : List Nat} {w w' : World} (a : FrX S w w') (h : ∀ k, k ∈ S → k ∈ S') : FrX S' w w' := fun k t cs hk hb => a k t cs (fun e => hk (h k e)) hb
theorem Try.info44 : (Try.prog.info? 44).map (fun i => (i.zero, i.size, i.bytes)) = some (some (.slice none 0 0), 1, 24) := by kernel_rfl
theorem nums_bound {k : IntKind} {w : World} {B B' n : Nat} {ad : Addr} {bs : List Int} (h : Nums k w B (some ad) n bs) (hb : ad.block < B') : Nums k w B' (some ad) n bs :=
  ⟨h.1, fun hn => by
    obtain ⟨ad', e, _, h2⟩ := h.2 hn
    injection e with e
    subst e
    exact ⟨_, rfl, hb, h2⟩⟩
theorem pgs_take (b : List Int) (u l n k : Nat) (h : k ≤ n) : (pgs b u l (List.range n)).take k = pgs b u l (List.range k) := by
  apply List.ext_getElem
  · simp [pgs]; omega
  · intro i h1 h2
    simp [pgs]
theorem nums_keep {S : List Nat} {w w' : World} {B base n : Nat} {ad : Addr} {bs : List Int} (h : Nums .u8 w B (some ad) n bs) (hn : 0 < n) (a : FrX S w w') (hbl : Below base w w') (hs : ad.block ∉ S) (hb : (∃ t cs, Blk w ad.block t cs) ∨ ad.block < base) : Nums .u8 w' B (some ad) n bs := by
  rcases hb with hb | hb
  · exact nums_frx h hn a hs hb
  · obtain ⟨ad', e, hB, _⟩ := h.2 hn
    injection e with e
    subst e
    exact nums_bound ((nums_bound h hb).below hbl) hB
/-- What a record's leaves are. -/
def pagesV (used : Nat) (b : List Int) : List (List Int) := pgs b used (used + (b.length - 1) / 41) (List.range (need b))
theorem pagesV_len (used : Nat) (b : List Int) : (pagesV used b).length = need b := by simp [pagesV, pgs_len]

/-- What Add does where there is room: the record is there; or it fell at a stroke. -/
def AddOut (w : World) (base g h j : Nat) (v : Value) (J : Jn) (p : Pd) (b : List Int) (e : Ending) (w' : World) : Prop :=
  (e = .returned (.int .i64 0) ∧ (p.snag = 0 ∨ ((need b : Nat) : Int) + 1 < p.snag) ∧ ∃ v', PadAt w' g h (inkP p J.used (pagesV J.used b)).stroke.dry ∧ JouAt w' base g j v' ⟨J.falls, J.l ++ [b], J.used + need b⟩ ∧
    (v'.ownBlock = v.ownBlock ∨ ∃ k, v'.ownBlock = some k ∧ w.heap.size ≤ k) ∧ Below base w w' ∧ Safe v.ownBlock w w') ∨
  (e = .returned (.int .i64 15) ∧ 1 ≤ p.snag ∧ p.snag ≤ ((need b : Nat) : Int) + 1 ∧ PadAt w' g h (hitP p J.used ((pagesV J.used b).take p.snag.toNat)) ∧ JouAt w' base g j v J ∧ Below base w w' ∧ Safe none w w')

theorem run_load26 {a : Act} {o : Oper} {w : World} {b : Nat} {pg : List Int} (x : Operand) (ho : o.op = .load 26 x) (hx : a.eval x = .pointer (some ⟨b, 0, none⟩)) (hb : Blk w b 26 (bArr pg)) (hl : pg.length = 48) : (execOp a.eval o).run Try.prog w = .ok (.value (.agg (bArr pg))) w := by
  have := run_loadAt_mid (P := Try.prog) w b 0 26 (bArr pg).toList _ hb.all Try.underlying26 rfl (by rw [Try.size26]; simp [bArr, hl])
  unfold execOp
  simp only [ho, hx, Sem.run_bind, this, Result.andThen_ok]
  simp
/-- A range over a function whose loop variable goes straight to its place. -/
theorem rangeFunc_A {P : Program} {F : Fence} {n : Nat} {α : Type} {g : Operand} {ps : Array Tmp} {assign body : Code} {Q : Exit → Act → World → Prop} {a : Act} {w : World}
    (hro : F.round = none) (h1 : 1 ≤ n) {gf : Nat} {lb : Array Value} (hg : a.eval g = .func (.func gf) #[] lb) (hFg : F.fn gf) (eg : ∀ args w, (callFunc gf args).run P w = .ok (.enter gf args) w)
    {encs : α → Array Value} {Kp : World → World → Prop} {S Sp : List α → Prop} {N : Nat} {w0 : World} (hseq : SeqStopsK F (n - 1) P gf lb encs Kp S Sp N w0)
    (hKt : ∀ {A B C : World}, Kp A B → Kp B C → Kp A C) (hKb : ∀ (W : World) (l : Nat) (o o' : Obj), w.heap.size ≤ l → W.heap[l]? = some o → o.isCells = false → o.isWalk = false → Kp W (W.putObj l o')) (hb0 : Below w0.heap.size w0 w) (hps : ∀ x, (encs x).size = ps.size)
    (I : List α → World → Prop) (Ix : Code → List α → World → Prop) (hI : OwnFrom w.heap.size I) (hIx : ∀ c, OwnFrom w.heap.size (Ix c)) (h0 : I [] w) (A1 : Act → α → Act)
    (hassign : ∀ (l : Nat) (x : α) (W : World) (K : Act → World → Prop), K (A1 a x) W →
      assign.wpIn (F.inRound l) (n - 1 - 1) P (Exit.then K (fun _ _ _ => False)) { tmps := (ps.zip (encs x)).foldl (fun t (p, v) => t.setIfInBounds p v) a.tmps, defers := [] } W)
    (hbody : ∀ (l : Nat) (pre : List α) (x : α) (W : World), I pre W → pre.length < N → body.wpIn (F.inRound l) (n - 1 - 1) P (ownPostG w.heap.size Kp I Ix (pre ++ [x]) W) (A1 a x) W)
    (hdone : ∀ (D : Nat) (xs : List α) (W : World), w.heap.size ≤ D → S xs → I xs W → W.heap[D]? = some (.deferred (some [])) → Q .normal { a with defers := { target := .collected D, args := #[] } :: a.defers } W)
    (hstop : ∀ (D : Nat) (c : Code) (pre : List α) (W : World), w.heap.size ≤ D → Sp pre → Ix c pre W → W.heap[D]? = some (.deferred (some [])) → c.wpIn F n P Q { a with defers := { target := .collected D, args := #[] } :: a.defers } W) :
    (Code.rangeFunc g ps assign body).wpIn F n P Q a w :=
  wpIn_rangeFunc_ownG hro h1 hg hFg eg hseq hKt hKb hb0 hps I Ix hI hIx h0 (A1 a) hassign hbody hdone hstop

attribute [local go_sem] Oper.semAt_some

set_option maxRecDepth 100000 in
set_option maxHeartbeats 4000000 in
theorem add_any {w : World} {base g h j : Nat} {v : Value} {J : Jn} {p : Pd} (ad : Addr) (len cap B : Nat) (b : List Int) (a : JouAt w base g j v J) (hp : PadAt w g h p) (hm : Nums .u8 w B (some ad) len b) (hab : (∃ t cs, Blk w ad.block t cs) ∨ ad.block < base) (hne : ad.block ≠ g ∧ ad.block ≠ h)
    (hcap : len ≤ cap) (hcm : cap ≤ maxLen) (hb : isBytes b) (h1 : 1 ≤ len) (h2 : len ≤ 100000) (hd : p.down = false) (hf : p.falls = J.falls) (hff : p.falls < 1000000000) (hfit : J.used + need b ≤ p.l.length) (hblank : ∀ n, J.used ≤ n → n < p.l.length → (p.at n).is = 0) (hbase : base ≤ g ∧ base ≤ h ∧ base ≤ j ∧ base ≤ w.heap.size) :
    Calls Try.prog 37 #[.pointer (some ⟨j, 0, none⟩), .slice (some ad) len cap] w fun e w' => AddOut w base g h j v J p b e w' := by
  have hlb := hm.len
  have hnd : need b = (len + 40) / 41 := by unfold need; rw [hlb]
  have hus := a.used
  have hpl := hp.len
  have H0 := Lib.hid hnd
  obtain ⟨r, hr0⟩ : ∃ r : Nat, (len - 1) / 41 = r := ⟨_, rfl⟩
  have hr : ((len : Int) - 1) / 41 = (r : Int) := by omega
  have hneed : need b = r + 1 := by omega
  have hlt : J.used + r < p.l.length := by omega
  have HND := Lib.hid hneed
  have HA0 := Lib.hid a
  have HLT := Lib.hid (show g < w.heap.size ∧ h < w.heap.size ∧ j < w.heap.size ∧ ad.block < w.heap.size from ⟨hp.lt.1, hp.lt.2, a.head.lt, hab.elim (fun ⟨t, cs, hb⟩ => hb.lt) (fun hb => Nat.lt_of_lt_of_le hb hbase.2.2.2)⟩)
  have HR0 := Lib.hid hr0
  clear hr0 hneed
  refine (callsIn_wide (n := 10)).1 ?_
  refine callsIn_of_wp_marks Try.func37 rfl trivial ?_ rfl
  simp only [Try.ntmps37, List.size_toArray, List.length_cons, List.length_nil, Nat.reduceAdd, Nat.reduceSub, Array.replicate_succ, Array.replicate_zero, List.push_toArray, List.append_toArray, List.nil_append, List.cons_append]
  refine wpIn_wide.2 ?_
  -- the boxes
  have hb0 : Blk ((w.alloc (.cells #[.pointer (some ⟨j, 0, none⟩)] 54)).alloc (.cells #[.int .i64 0] 29)) w.heap.size 54 #[.pointer (some ⟨j, 0, none⟩)] := (Blk.new w 54 _).alloc _
  have hb1 : Blk ((w.alloc (.cells #[.pointer (some ⟨j, 0, none⟩)] 54)).alloc (.cells #[.int .i64 0] 29)) (w.heap.size + 1) 29 #[.int .i64 0] := Blk.new1 w _ 29 _
  have hB1 : Below w.heap.size w ((w.alloc (.cells #[.pointer (some ⟨j, 0, none⟩)] 54)).alloc (.cells #[.int .i64 0] 29)) := ((Below.refl _ _).alloc (Nat.le_refl _) _).alloc (by simp) _
  have HP := Lib.hid (hp.below hB1)
  have HA := Lib.hid (a.below hB1)
  have HB0 := Lib.hid hb0
  have HB1 := Lib.hid hb1
  have HBW := Lib.hid hB1
  have HM := Lib.hid hm
  have HAB := Lib.hid hab
  have HNE := Lib.hid hne
  have HBL := Lib.hid hblank
  have HBY := Lib.hid hb
  have HF := Lib.hid hf
  have HFIT := Lib.hid hfit
  have HLB := Lib.hid hlb
  have HBA := Lib.hid hbase
  clear hb0 hb1 hB1 hp a hm hab hne hblank hb hf hfit hlb hnd hbase
  go_wp2_with fail
  refine (up_ok HA.out HP.out hd HF.out).mono ?_
  rintro e w1 ⟨rfl, hq⟩
  have hs1 : w1.heap.size = w.heap.size + 2 := by rw [hq.size]; simp
  have HQ := Lib.hid hq
  have HP1 := Lib.hid (HP.out.below (HQ.out.below _))
  have HA1 := Lib.hid (HA.out.below (HQ.out.below _))
  have HB01 := Lib.hid (hq.blk HB0.out)
  have HB11 := Lib.hid (hq.blk HB1.out)
  have HBW1 := Lib.hid (HBW.out.trans (hq.below _))
  have HS1 := Lib.hid hs1
  have e1 : w1.cell? ⟨w.heap.size, 0, none⟩ = some (.pointer (some ⟨j, 0, none⟩)) := by rw [HB01.out.cell]; rfl
  have e2 := HA1.out.c3
  have e3 := HA1.out.c0
  clear hq hs1 HP HA HB0 HB1 HBW HQ
  go_wp2_with fail
  have hL2 : Below w1.heap.size w1 (w1.alloc (.cells #[.int .i64 ((J.used : Int) + (r : Int))] 3)) := (Below.refl _ _).alloc (Nat.le_refl _) _
  have HP2 := Lib.hid (HP1.out.below hL2)
  have HA2 := Lib.hid (HA1.out.below hL2)
  have HB02 := Lib.hid (HB01.out.below hL2 HB01.out.lt)
  have HB12 := Lib.hid (HB11.out.below hL2 HB11.out.lt)
  have HB22 := Lib.hid (Blk.new w1 3 #[.int .i64 ((J.used : Int) + (r : Int))])
  have HBW2 := Lib.hid (HBW1.out.trans (hL2.mono (by rw [HS1.out]; omega)))
  have HS2 := Lib.hid (show (w1.alloc (.cells #[.int .i64 ((J.used : Int) + (r : Int))] 3)).heap.size = w.heap.size + 3 by rw [World.size_alloc, HS1.out])
  have HS1' := Lib.hid (show w1.heap.size = w.heap.size + 2 from HS1.out)
  clear hL2 HP1 HA1 HB01 HB11 HBW1 e1 e2 e3 HS1
  generalize hW2 : w1.alloc (.cells #[.int .i64 ((J.used : Int) + (r : Int))] 3) = w2 at *
  clear hW2
  have e1 : w2.cell? ⟨w.heap.size, 0, none⟩ = some (.pointer (some ⟨j, 0, none⟩)) := by rw [HB02.out.cell]; rfl
  have e2 := HA2.out.c3
  have e3 := HA2.out.c0
  have e4 : w2.cell? ⟨w1.heap.size, 0, none⟩ = some (.int .i64 ((J.used : Int) + (r : Int))) := by rw [HB22.out.cell]; rfl
  go_quiet ((go_at_call 17; exact quiet_same (len_any (HP2.out.drewN _))))
  have HP3 := Lib.hid (HP2.out.drewN nq)
  have HA3 := Lib.hid (HA2.out.drewN nq)
  have HB03 := Lib.hid (HB02.out.drewN nq)
  have HB13 := Lib.hid (HB12.out.drewN nq)
  have HB23 := Lib.hid (HB22.out.drewN nq)
  have HBW3 := Lib.hid (HBW2.out.trans ((Quiet.drewN w2 nq).below _))
  have HS3 := Lib.hid (show (w2.drewN nq).heap.size = w.heap.size + 3 from HS2.out)
  clear HP2 HA2 HB02 HB12 HB22 HBW2 HS2 e1 e2 e3 e4
  generalize hW3 : w2.drewN nq = w3 at *
  clear hW3
  have e1 : w3.cell? ⟨w.heap.size, 0, none⟩ = some (.pointer (some ⟨j, 0, none⟩)) := by rw [HB03.out.cell]; rfl
  have e2 := HA3.out.c3
  go_wp2_with fail
  refine (chunk_any (some ad) len cap _).mono ?_
  rintro e w4 ⟨rfl, hw4⟩
  have hL4 : Below w3.heap.size w3 w4 := by
    rw [hw4]
    exact (((Below.refl _ _).alloc (Nat.le_refl _) _).alloc (by simp) _).alloc (by simp; omega) _
  have hb3 : Blk w4 (w.heap.size + 3) 3 #[.int .i64 J.used] := by
    have := (((Blk.new w3 3 #[.int .i64 J.used]).alloc (.cells #[.slice (some ad) len cap] 44)).alloc (.cells #[.int .i64 41] 3))
    rw [← hw4, HS3.out] at this
    exact this
  have hb4 : Blk w4 (w.heap.size + 4) 44 #[.slice (some ad) len cap] := by
    have := ((Blk.new1 w3 (.cells #[.int .i64 J.used] 3) 44 #[.slice (some ad) len cap]).alloc (.cells #[.int .i64 41] 3))
    rw [← hw4, HS3.out] at this
    exact this
  have hb5 : Blk w4 (w.heap.size + 5) 3 #[.int .i64 41] := by
    have := (Blk.new1 (w3.alloc (.cells #[.int .i64 J.used] 3)) (.cells #[.slice (some ad) len cap] 44) 3 #[.int .i64 41])
    rw [← hw4, World.size_alloc, HS3.out] at this
    exact this
  have hs4 : w4.heap.size = w.heap.size + 6 := by rw [hw4]; simp [HS3.out]
  have HP4 := Lib.hid (HP3.out.below hL4)
  have HA4 := Lib.hid (HA3.out.below hL4)
  have HB04 := Lib.hid (HB03.out.below hL4 HB03.out.lt)
  have HB14 := Lib.hid (HB13.out.below hL4 HB13.out.lt)
  have HB24 := Lib.hid (HB23.out.below hL4 HB23.out.lt)
  rw [HS1'.out] at HB24
  have HB34 := Lib.hid hb3
  have HB44 := Lib.hid hb4
  have HB54 := Lib.hid hb5
  have HS4 := Lib.hid hs4
  have HBW4 := Lib.hid (HBW3.out.trans (hL4.mono (by rw [HS3.out]; omega)))
  clear hL4 hb3 hb4 hb5 hs4 HP3 HA3 HB03 HB13 HB23 HBW3 hw4 e1 e2
  simp only [World.size_alloc, HS1'.out, HS3.out, Nat.add_assoc, Nat.reduceAdd]
  clear HS1' HS3
  go_wp2_with fail
  have hjj : j ∉ [g, h, w.heap.size + 1, w.heap.size + 3] := by
    have := HLT.out
    have e1 : j ≠ g := fun e => by subst e; exact absurd (HA4.out.head.ty HP4.out.head) (by decide)
    have e2 : j ≠ h := fun e => by subst e; exact absurd (HA4.out.head.ty HP4.out.row) (by decide)
    simp; omega
  have HJN := Lib.hid hjj
  have HSF := Lib.hid (show ∀ WF, FrX [g, h, w.heap.size + 1, w.heap.size + 3] w4 WF → Safe none w WF from by
    intro WF hfr k' t cs n1 n2 n3 _ hb
    refine hfr k' t cs ?_ (hb.below HBW4.out hb.lt)
    have := HLT.out
    have := hb.lt
    have e1 : k' ≠ g := fun e => by subst e; exact n1 ((hb.below HBW4.out hb.lt).ty HP4.out.head)
    have e2 : k' ≠ h := fun e => by subst e; exact n2 ((hb.below HBW4.out hb.lt).ty HP4.out.row)
    simp; omega)
  have HJF := Lib.hid (show ∀ WF, FrX [g, h, w.heap.size + 1, w.heap.size + 3] w4 WF → JouAt WF base g j v J from
    fun WF hfr => ⟨hfr _ _ _ HJN.out HA4.out.head, HA0.out.recs.safe (HSF.out WF hfr) (.inl rfl), HA4.out.falls, HA4.out.used, HA4.out.many⟩)
  clear hjj
  try simp only [hr]
  try simp only [show ((len : Int) == 0) = false from by rw [beq_eq_false_iff_ne]; omega]
  try simp only [decide_eq_false (show ¬ ((p.l.length : Nat) : Int) ≤ (J.used : Int) + (r : Int) from by omega)]
  refine (wpIn_wide (n := 10)).1 ?_
  refine rangeFunc_A rfl (by omega) (gf := 67) (lb := #[.pointer (some ⟨w.heap.size + 4, 0, none⟩), .pointer (some ⟨w.heap.size + 5, 0, none⟩)]) rfl trivial (enters_of Try.func67 (by kernel_rfl) rfl)
    (chunk_stops 9 (w.heap.size + 4) (w.heap.size + 5) ad len cap (by omega) (FrX [g, h, w.heap.size + 1, w.heap.size + 3]) (by omega) hcap hcm
      (fun W W' t cs hk hb => hk _ _ _ (by have := HLT.out; simp; omega) hb) (fun W W' t cs hk hb => hk _ _ _ (by have := HLT.out; simp; omega) hb) w4 HB44.out HB54.out)
    (fun h1 h2 => h1.trans h2) (fun W l o o' hl ho hc hw => (FrX.refl _ W).turn (grownBy_putObj' W l o') (fun r e => by cases e; exact ⟨o, ho, hc⟩)) (Below.refl _ _) (fun _ => rfl)
    (fun pre W => (PadAt W g h (inkP p J.used (pgs b J.used (J.used + r) pre)) ∧ Blk W (w.heap.size + 1) 29 #[.int .i64 0] ∧ Blk W (w.heap.size + 3) 3 #[.int .i64 ((J.used + pre.length : Nat) : Int)] ∧ FrX [g, h, w.heap.size + 1, w.heap.size + 3] w4 W ∧ (p.snag = 0 ∨ ((pre.length : Nat) : Int) < p.snag)) ∧ Below base w4 W)
    (fun c pre W => (c = .ret ∧ (p.snag = ((pre.length : Nat) : Int) ∧ 1 ≤ p.snag) ∧ PadAt W g h (hitP p J.used (pgs b J.used (J.used + r) pre)) ∧ Blk W (w.heap.size + 1) 29 #[.int .i64 15] ∧ FrX [g, h, w.heap.size + 1, w.heap.size + 3] w4 W) ∧ Below base w4 W)
    ?hI ?hIx ?h0 (fun a x => { tmps := (a.tmps.setIfInBounds 43 (chunkS ad len x)).setIfInBounds 8 (chunkS ad len x), defers := [] }) ?assign ?body ?done ?stop
  case hI =>
    exact OwnFrom.and (Own.from (fun s A B row hs hg hr => ⟨hs.1.turn hg hr, hs.2.1.turn hg hr, hs.2.2.1.turn hg hr, hs.2.2.2.1.turn hg hr, hs.2.2.2.2⟩) _) (ownFrom_below (by have := HS4.out; have := HBA.out; omega) (by have := HS4.out; have := HBA.out; omega))
  case hIx =>
    exact fun c => OwnFrom.and (Own.from (fun s A B row hs hg hr => ⟨hs.1, hs.2.1, hs.2.2.1.turn hg hr, hs.2.2.2.1.turn hg hr, hs.2.2.2.2.turn hg hr⟩) _) (ownFrom_below (by have := HS4.out; have := HBA.out; omega) (by have := HS4.out; have := HBA.out; omega))
  case h0 =>
    refine ⟨⟨?_, HB14.out, HB34.out, FrX.refl _ _, ?_⟩, Below.refl _ _⟩
    · rw [pgs_nil, inkP_nil]; exact HP4.out
    · have := HP4.out.snag.1
      rcases Int.lt_or_eq_of_le this with h | h
      · exact .inr h
      · exact .inl h.symm
  case assign =>
    intro l x W K hK
    simp only [List.setIfInBounds_toArray, List.set_cons_succ, List.set_cons_zero] at hK
    gi_wp2
    exact hK
  case body =>
    rintro l pre x W ⟨⟨hP, hb1, hb3, hfr, hsn⟩, hbe⟩ hN
    simp only [List.setIfInBounds_toArray, List.set_cons_succ, List.set_cons_zero]
    have hfr0 : FrX [g, h, w.heap.size + 1, w.heap.size + 3] w W := (FrX.of_below HBW4.out _).trans hfr
    have hnW : Nums .u8 W B (some ad) len b := nums_keep (base := base) HM.out (by omega) hfr0 ((HBW4.out.mono (by have := HBA.out; omega)).trans hbe) (by have := HLT.out; have := HNE.out; simp; omega) HAB.out
    obtain ⟨ad', m, hcs, hm1, hm2, hnm⟩ : ∃ (ad' : Addr) (m : Nat), chunkS ad len x = .slice (some ad') m m ∧ 1 ≤ m ∧ m ≤ 41 ∧ Nums .u8 W W.heap.size (some ad') m (chunkB b x) := ⟨_, _, rfl, by have := clip_lt h1 x; omega, by omega, chunk_nums (nums_bound hnW (by have := HLT.out; have := hbe.size; have := HS4.out; omega)) x h1⟩
    rw [hcs]
    obtain ⟨k, hk⟩ : ∃ k, pre.length = k := ⟨_, rfl⟩
    rw [hk] at hN hb3 hsn
    have hb0 : Blk W w.heap.size 54 #[.pointer (some ⟨j, 0, none⟩)] := hfr _ _ _ (by have := HLT.out; simp; omega) HB04.out
    have hb2 : Blk W (w.heap.size + 2) 3 #[.int .i64 ((J.used : Int) + (r : Int))] := hfr _ _ _ (by have := HLT.out; simp; omega) HB24.out
    have hjj : j ∉ [g, h, w.heap.size + 1, w.heap.size + 3] := by
      have := HLT.out
      have e1 : j ≠ g := fun e => by subst e; exact absurd (HA4.out.head.ty HP4.out.head) (by decide)
      have e2 : j ≠ h := fun e => by subst e; exact absurd (HA4.out.head.ty HP4.out.row) (by decide)
      simp; omega
    have hbj := hfr _ _ _ hjj HA4.out.head
    obtain ⟨CC, hCC⟩ : ∃ CC : World → Prop, CC = fun W' => W'.cell? ⟨w.heap.size, 0, none⟩ = some (.pointer (some ⟨j, 0, none⟩)) ∧ W'.cell? ⟨w.heap.size + 2, 0, none⟩ = some (.int .i64 ((J.used : Int) + (r : Int))) ∧ W'.cell? ⟨w.heap.size + 3, 0, none⟩ = some (.int .i64 ((J.used + k : Nat) : Int)) ∧ W'.cell? ⟨j, 3, none⟩ = some (.int .i64 J.used) := ⟨_, rfl⟩
    have hC0 : CC W.drew := by
      rw [hCC]
      refine ⟨?_, ?_, ?_, ?_⟩
      · rw [hb0.drew.cell]; rfl
      · rw [hb2.drew.cell]; rfl
      · rw [hb3.drew.cell]; rfl
      · rw [hbj.drew.cell]; rfl
    have hCb : ∀ w1 w2, Below W.heap.size w1 w2 → CC w1 → CC w2 := by
      intro w1 w2 hbl hc
      rw [hCC] at hc ⊢
      obtain ⟨q1, q2, q3, q4⟩ := hc
      exact ⟨(hbl.cell (p := ⟨_, _, _⟩) hb0.lt).trans q1, (hbl.cell (p := ⟨_, _, _⟩) hb2.lt).trans q2, (hbl.cell (p := ⟨_, _, _⟩) hb3.lt).trans q3, (hbl.cell (p := ⟨_, _, _⟩) hbj.lt).trans q4⟩
    gi_wp2
    refine wpIn_region_T 18 (fun _ w1 w2 => CC w1 → CC w2) (by kernel_rfl) (by kernel_rfl) rfl ?_
    refine T_takeD CC 0 45 (.int .i64 ((J.used + k : Nat) : Int)) rfl rfl rfl (by kernel_rfl) (by kernel_rfl) (by kernel_rfl) (fun _ _ _ h => h) (fun _ h => h) (fun _ _ _ _ _ _ _ hk hc => hk hc) hC0 (fun w1 hc => by rw [hCC] at hc; obtain ⟨q1, q2, q3, q4⟩ := hc; go_simp) ?_
    simp only [List.setIfInBounds_toArray, List.set_cons_succ, List.set_cons_zero]
    refine T_takeD CC 1 46 (.int .i64 ((J.used + k : Nat) : Int)) rfl rfl rfl (by kernel_rfl) (by kernel_rfl) (by kernel_rfl) (fun _ _ _ h => h) (fun _ h => h) (fun _ _ _ _ _ _ _ hk hc => hk hc) hC0 (fun w1 hc => by rw [hCC] at hc; obtain ⟨q1, q2, q3, q4⟩ := hc; go_simp) ?_
    simp only [List.setIfInBounds_toArray, List.set_cons_succ, List.set_cons_zero]
    refine T_takeD CC 2 47 (.pointer (some ⟨j, 0, none⟩)) rfl rfl rfl (by kernel_rfl) (by kernel_rfl) (by kernel_rfl) (fun _ _ _ h => h) (fun _ h => h) (fun _ _ _ _ _ _ _ hk hc => hk hc) hC0 (fun w1 hc => by rw [hCC] at hc; obtain ⟨q1, q2, q3, q4⟩ := hc; go_simp) ?_
    simp only [List.setIfInBounds_toArray, List.set_cons_succ, List.set_cons_zero]
    refine T_calmD 3 48 (.pointer (some ⟨j, 0, none⟩)) rfl rfl rfl (by kernel_rfl) (by kernel_rfl) (by kernel_rfl) (fun _ _ _ h => h) (fun _ h => h) (fun w1 => by go_simp) ?_
    simp only [List.setIfInBounds_toArray, List.set_cons_succ, List.set_cons_zero]
    refine T_calmD 4 49 (.pointer (some ⟨j, 3, none⟩)) rfl rfl rfl (by kernel_rfl) (by kernel_rfl) (by kernel_rfl) (fun _ _ _ h => h) (fun _ h => h) (fun w1 => by go_simp) ?_
    simp only [List.setIfInBounds_toArray, List.set_cons_succ, List.set_cons_zero]
    refine T_takeD CC 5 50 (.int .i64 J.used) rfl rfl rfl (by kernel_rfl) (by kernel_rfl) (by kernel_rfl) (fun _ _ _ h => h) (fun _ h => h) (fun _ _ _ _ _ _ _ hk hc => hk hc) hC0 (fun w1 hc => by rw [hCC] at hc; obtain ⟨q1, q2, q3, q4⟩ := hc; go_simp) ?_
    simp only [List.setIfInBounds_toArray, List.set_cons_succ, List.set_cons_zero]
    refine T_calmD 6 51 (.bool (decide (k = 0))) rfl rfl rfl (by kernel_rfl) (by kernel_rfl) (by kernel_rfl) (fun _ _ _ h => h) (fun _ h => h) (fun w1 => by go_simp; rw [Bool.eq_iff_iff, beq_iff_eq, decide_eq_true_iff]; omega) ?_
    simp only [List.setIfInBounds_toArray, List.set_cons_succ, List.set_cons_zero]
    refine T_takeD CC 7 52 (.int .i64 ((J.used + k : Nat) : Int)) rfl rfl rfl (by kernel_rfl) (by kernel_rfl) (by kernel_rfl) (fun _ _ _ h => h) (fun _ h => h) (fun _ _ _ _ _ _ _ hk hc => hk hc) hC0 (fun w1 hc => by rw [hCC] at hc; obtain ⟨q1, q2, q3, q4⟩ := hc; go_simp) ?_
    simp only [List.setIfInBounds_toArray, List.set_cons_succ, List.set_cons_zero]
    refine T_takeD CC 8 53 (.int .i64 ((J.used : Int) + (r : Int))) rfl rfl rfl (by kernel_rfl) (by kernel_rfl) (by kernel_rfl) (fun _ _ _ h => h) (fun _ h => h) (fun _ _ _ _ _ _ _ hk hc => hk hc) hC0 (fun w1 hc => by rw [hCC] at hc; obtain ⟨q1, q2, q3, q4⟩ := hc; go_simp) ?_
    simp only [List.setIfInBounds_toArray, List.set_cons_succ, List.set_cons_zero]
    refine T_calmD 9 54 (.bool (decide (J.used + k = J.used + r))) rfl rfl rfl (by kernel_rfl) (by kernel_rfl) (by kernel_rfl) (fun _ _ _ h => h) (fun _ h => h) (fun w1 => by go_simp; rw [Bool.eq_iff_iff, beq_iff_eq, decide_eq_true_iff]; omega) ?_
    simp only [List.setIfInBounds_toArray, List.set_cons_succ, List.set_cons_zero]
    refine T_calmD 10 55 (.slice (some ad') m m) rfl rfl rfl (by kernel_rfl) (by kernel_rfl) (by kernel_rfl) (fun _ _ _ h => h) (fun _ h => h) (fun w1 => by go_simp) ?_
    simp only [List.setIfInBounds_toArray, List.set_cons_succ, List.set_cons_zero]
    have hkl : J.used + k ≤ 20000 := by have := HND.out; have := H0.out; omega
    obtain ⟨pg, hpg⟩ : ∃ pg, pgOf b J.used (J.used + r) k x = pg := ⟨_, rfl⟩
    have hpage : ∀ wx, Nums .u8 wx W.heap.size (some ad') m (chunkB b x) → W.heap.size ≤ wx.heap.size → Calls Try.prog 30 #[.int .i64 ((J.used + k : Nat) : Int), .bool (decide (k = 0)), .bool (decide (J.used + k = J.used + r)), .slice (some ad') m m] wx fun e w' => ∃ er : Int, e = .returned (.tuple #[.agg (bArr pg), .int .i64 er]) ∧ Below wx.heap.size wx w' := by
      intro wx hn hsz
      have := page_any ((J.used + k : Nat) : Int) (decide (k = 0)) (decide (J.used + k = J.used + r)) ad' m m _ (chunkB b x) wx (by omega) (by omega) hn hsz (chunkB_bytes HBY.out x) hm1 hm2
      rw [← hpg]
      exact this
    have hpgl : pg.length = 48 := by rw [← hpg]; exact pgOf_len _ _ _ _ _
    have hpgb : isBytes pg := by rw [← hpg]; exact pgOf_bytes HBY.out _ _ _ _
    have HPG := Lib.hid hpg
    have HPL := Lib.hid hpgl
    clear hpg hpgl
    refine T_two 11 15 (by kernel_rfl) ?_ ?_
    · refine sOp_callD 56 30 #[.int .i64 ((J.used + k : Nat) : Int), .bool (decide (k = 0)), .bool (decide (J.used + k = J.used + r)), .slice (some ad') m m] rfl rfl rfl (by go_simp) ?_
      refine (hpage _ hnm.drew (Nat.le_refl _)).mono ?_
      rintro e w5 ⟨er, rfl, hb5⟩
      refine ⟨_, rfl, hCb _ _ hb5, ?_⟩
      simp only [List.setIfInBounds_toArray, List.set_cons_succ, List.set_cons_zero]
      refine T_calmD 12 44 (.tuple #[.agg (bArr pg), .int .i64 er]) rfl rfl rfl (by kernel_rfl) (by kernel_rfl) (by kernel_rfl) (fun _ _ _ h => h) (fun _ h => h) (fun w1 => by go_simp) ?_
      simp only [List.setIfInBounds_toArray, List.set_cons_succ, List.set_cons_zero]
      refine T_calmD 13 57 (.agg (bArr pg)) rfl rfl rfl (by kernel_rfl) (by kernel_rfl) (by kernel_rfl) (fun _ _ _ h => h) (fun _ h => h) (fun w1 => by go_simp) ?_
      simp only [List.setIfInBounds_toArray, List.set_cons_succ, List.set_cons_zero]
      refine T_calmD 14 58 (.int .i64 er) rfl rfl rfl (by kernel_rfl) (by kernel_rfl) (by kernel_rfl) (fun _ _ _ h => h) (fun _ h => h) (fun w1 => by go_simp) ?_
      simp only [List.setIfInBounds_toArray, List.set_cons_succ, List.set_cons_zero]
      refine T_one 15 (by kernel_rfl) (sOp_valueD 9 (.pointer (some ⟨w5.heap.size, 0, none⟩)) (w5.alloc (.cells zArr 26)) rfl rfl rfl (by unfold execOp; simp [run_alloc w5 26 zArr Try.zero26]) ?_)
      refine ⟨hCb _ _ ((Below.refl _ _).alloc hb5.size _), ?_⟩
      simp only [List.setIfInBounds_toArray, List.set_cons_succ, List.set_cons_zero]
      refine T_one 16 (by kernel_rfl) (sOp_wp rfl rfl (wp_store_mid 26 _ _ rfl w5.heap.size 0 (bArr pg) rfl rfl (by rw [bArr_size HPL.out]; exact (Blk.new w5 26 zArr).allThere zArr_size) (by rw [bArr_size HPL.out]; exact Try.size26) (bArr_one _) ?_))
      have hb6 : Below W.heap.size W (w26 w5 pg) := ((Below.refl W.heap.size W).drew.trans hb5).trans ((w26_below w5 pg).mono hb5.size)
      have hX : Blk (w26 w5 pg) w5.heap.size 26 (bArr pg) := w26_blk w5 pg HPL.out
      refine ⟨hCb _ _ ((Off.refl w5.heap.size w5.heap.size _).setCells (.inl rfl) _ _ |>.below hb5.size hb5.size (by simp; exact Nat.le_succ_of_le hb5.size)), ?_⟩
      change wpAnyT _ _ _ _ _ _ _ _ (w26 w5 pg)
      obtain ⟨bx, hbx⟩ : ∃ bx, w5.heap.size = bx := ⟨_, rfl⟩
      have hbx0 : W.heap.size ≤ bx := by rw [← hbx]; exact hb5.size
      rw [hbx] at hX ⊢
      generalize w26 w5 pg = w6 at *
      refine T_one 17 (by kernel_rfl) (sOp_valueD 10 (.int .i64 er) w6 rfl rfl rfl (by go_simp) ?_)
      refine ⟨fun h => h, ?_⟩
      simp only [List.setIfInBounds_toArray, List.set_cons_succ, List.set_cons_zero]
      refine T_done (by kernel_rfl) ?_
      clear hpage hnm hC0 hCb hCC
      have HP6 := Lib.hid (hP.below hb6)
      have HB06 := Lib.hid (hb0.below hb6 hb0.lt)
      have HB16 := Lib.hid (hb1.below hb6 hb1.lt)
      have HB36 := Lib.hid (hb3.below hb6 hb3.lt)
      have HBJ6 := Lib.hid (hbj.below hb6 hbj.lt)
      have HX6 := Lib.hid hX
      have HBE := Lib.hid (hbe.trans (hb6.mono (by have := hbe.size; have := HS4.out; have := HBA.out; omega)))
      have HFR := Lib.hid (hfr.trans (FrX.of_below hb6 _))
      have HKO := Lib.hid ((Below.others hb6).from w4.heap.size)
      have HFW := Lib.hid (FrX.of_below hb6 [g, h, w.heap.size + 1, w.heap.size + 3])
      have hne6 : w.heap.size ≠ g ∧ w.heap.size ≠ h ∧ w.heap.size + 1 ≠ g ∧ w.heap.size + 1 ≠ h ∧ w.heap.size + 3 ≠ g ∧ w.heap.size + 3 ≠ h ∧ j ≠ g ∧ j ≠ h ∧ bx ≠ g ∧ bx ≠ h := by
        have := HLT.out
        have := hP.lt
        have hj := hjj
        simp at hj
        omega
      obtain ⟨CD, hCD⟩ : ∃ CD : World → Prop, CD = fun W' => Blk W' w.heap.size 54 #[.pointer (some ⟨j, 0, none⟩)] ∧ Blk W' j 87 #[.pointer (some ⟨g, 0, none⟩), .int .i64 J.falls, v, .int .i64 J.used] ∧ Blk W' (w.heap.size + 3) 3 #[.int .i64 ((J.used + k : Nat) : Int)] ∧ Blk W' bx 26 (bArr pg) := ⟨_, rfl⟩
      have hD0 : CD w6.drew := by rw [hCD]; exact ⟨HB06.out, HBJ6.out, HB36.out, HX6.out⟩
      have hDo : ∀ w1 w2, Off g h w1 w2 → CD w1 → CD w2 := by
        intro w1 w2 ho hc
        rw [hCD] at hc ⊢
        obtain ⟨q1, q2, q3, q4⟩ := hc
        exact ⟨ho.blk q1 hne6.1 hne6.2.1, ho.blk q2 (by omega) (by omega), ho.blk q3 (by omega) (by omega), ho.blk q4 (by omega) (by omega)⟩
      clear hb6 hX hP hb0 hb1 hb2 hb3 hbj hfr hbe hfr0 hnW
      gi_wp2
      refine wpIn_region_T 8 (fun _ w1 w2 => CD w1 → CD w2) (by kernel_rfl) (by kernel_rfl) rfl ?_
      refine T_takeD CD 0 59 (.pointer (some ⟨j, 0, none⟩)) rfl rfl rfl (by kernel_rfl) (by kernel_rfl) (by kernel_rfl) (fun _ _ _ h => h) (fun _ h => h) (fun _ _ _ _ _ _ _ hk hc => hk hc) hD0 (fun w1 hc => by rw [hCD] at hc; obtain ⟨q1, q2, q3, q4⟩ := hc; have e := q1.cell 0; go_simp) ?_
      simp only [List.setIfInBounds_toArray, List.set_cons_succ, List.set_cons_zero]
      refine T_calmD 1 60 (.pointer (some ⟨j, 0, none⟩)) rfl rfl rfl (by kernel_rfl) (by kernel_rfl) (by kernel_rfl) (fun _ _ _ h => h) (fun _ h => h) (fun w1 => by go_simp) ?_
      simp only [List.setIfInBounds_toArray, List.set_cons_succ, List.set_cons_zero]
      refine T_calmD 2 61 (.pointer (some ⟨j, 0, none⟩)) rfl rfl rfl (by kernel_rfl) (by kernel_rfl) (by kernel_rfl) (fun _ _ _ h => h) (fun _ h => h) (fun w1 => by go_simp) ?_
      simp only [List.setIfInBounds_toArray, List.set_cons_succ, List.set_cons_zero]
      refine T_takeD CD 3 62 (.pointer (some ⟨g, 0, none⟩)) rfl rfl rfl (by kernel_rfl) (by kernel_rfl) (by kernel_rfl) (fun _ _ _ h => h) (fun _ h => h) (fun _ _ _ _ _ _ _ hk hc => hk hc) hD0 (fun w1 hc => by rw [hCD] at hc; obtain ⟨q1, q2, q3, q4⟩ := hc; have e := q2.cell 0; go_simp) ?_
      simp only [List.setIfInBounds_toArray, List.set_cons_succ, List.set_cons_zero]
      refine T_takeD CD 4 63 (.int .i64 ((J.used + k : Nat) : Int)) rfl rfl rfl (by kernel_rfl) (by kernel_rfl) (by kernel_rfl) (fun _ _ _ h => h) (fun _ h => h) (fun _ _ _ _ _ _ _ hk hc => hk hc) hD0 (fun w1 hc => by rw [hCD] at hc; obtain ⟨q1, q2, q3, q4⟩ := hc; have e := q3.cell 0; go_simp) ?_
      simp only [List.setIfInBounds_toArray, List.set_cons_succ, List.set_cons_zero]
      refine T_takeD CD 5 64 (.agg (bArr pg)) rfl rfl rfl (by kernel_rfl) (by kernel_rfl) (by kernel_rfl) (fun _ _ _ h => h) (fun _ h => h) (fun _ _ _ _ _ _ _ hk hc => hk hc) hD0 (fun w1 hc => by rw [hCD] at hc; obtain ⟨q1, q2, q3, q4⟩ := hc; exact run_load26 (.tmp 9) rfl rfl q4 HPL.out) ?_
      simp only [List.setIfInBounds_toArray, List.set_cons_succ, List.set_cons_zero]
      have hlay : J.used + (pgs b J.used (J.used + r) pre).length < p.l.length := by rw [pgs_len, hk]; have := H0.out; have := HND.out; have := HFIT.out; omega
      have hll := layL_length (Nat.le_of_lt hlay)
      have hblk : ((inkP p J.used (pgs b J.used (J.used + r) pre)).at (J.used + k)).is = 0 := by
        have e := layL_at (m := J.used + k) (Nat.le_of_lt hlay) (by rw [pgs_len, hk]; exact Nat.le_refl _)
        show ((layL p.l J.used (pgs b J.used (J.used + r) pre)).getD (J.used + k) Lf.zero).is = 0
        rw [e]
        exact HBL.out _ (by omega) (by have := hlay; rw [pgs_len, hk] at this; exact this)
      have hkl2 : J.used + k < (inkP p J.used (pgs b J.used (J.used + r) pre)).l.length := by show _ < (layL p.l J.used _).length; rw [hll]; rw [pgs_len, hk] at hlay; exact hlay
      have hsnoc : pgs b J.used (J.used + r) (pre ++ [x]) = pgs b J.used (J.used + r) pre ++ [pg] := by rw [pgs_snoc, hk, HPG.out]
      have hsnl : (pre ++ [x]).length = k + 1 := by simp [hk]
      by_cases hhit : p.snag = ((k : Nat) : Int) + 1
      · have hsv : (inkP p J.used (pgs b J.used (J.used + r) pre)).snag = 1 := by
          show (if p.snag = 0 then 0 else p.snag - ((pgs b J.used (J.used + r) pre).length : Int)) = 1
          rw [pgs_len, hk, if_neg (by omega)]
          omega
        have hink := ink_put (w := w6.drew) (J.used + k) pg 15 HP6.out.drew hff hd hkl2 hblk HPL.out hpgb (by rw [if_pos hsv])
        have hst := inkP_hit (x := pg) hlay (by rw [pgs_len, hk]; exact hhit)
        rw [pgs_len, hk, ← hsnoc] at hst
        rw [hst] at hink
        refine T_one 6 (by kernel_rfl) ?_
        refine sOp_callD 65 19 #[.pointer (some ⟨g, 0, none⟩), .int .i64 ((J.used + k : Nat) : Int), .agg (bArr pg)] rfl rfl rfl (by go_simp) ?_
        refine hink.mono ?_
        rintro e w7 ⟨rfl, hp7, ho7⟩
        refine ⟨_, rfl, hDo _ _ ho7, ?_⟩
        simp only [List.setIfInBounds_toArray, List.set_cons_succ, List.set_cons_zero]
        refine T_one 7 (by kernel_rfl) (sOp_valueD 11 (.int .i64 15) w7 rfl rfl rfl (by go_simp) ?_)
        refine ⟨fun h => h, ?_⟩
        simp only [List.setIfInBounds_toArray, List.set_cons_succ, List.set_cons_zero]
        refine T_done (by kernel_rfl) ?_
        have HP7 := Lib.hid hp7
        have HO7 := Lib.hid ho7
        have hb17 := ho7.blk HB16.out.drew (by omega) (by omega)
        have f1 := hb17.frozen 0
        have c1 : w7.cell? ⟨w.heap.size + 1, 0, none⟩ = some (.int .i64 0) := by rw [hb17.cell]; rfl
        have HB17 := Lib.hid hb17
        clear hp7 ho7 hink hst hDo hD0 hCD hb17
        gi_wp2
        refine ⟨HKO.out.trans ((((KeepsOthers.drew w6).trans (Off.others HP6.out.drew HO7.out)).trans (KeepsOthers.setCell _ _ _)).from _), ⟨⟨rfl, ⟨by rw [hsnl]; omega, by omega⟩, HP7.out.far hne6.2.2.1.symm hne6.2.2.2.1.symm _, HB17.out.set_ 0 _, ?_⟩, ?_⟩⟩
        · exact FrX.setCell (HFR.out.trans (FrX.of_off (w := w6) ⟨HO7.out.os, HO7.out.tape, HO7.out.output, HO7.out.size, HO7.out.block⟩ (by simp) (by simp))) (by simp) _
        · exact (HBE.out.drew.trans (HO7.out.below (by have := HBA.out; omega) (by have := HBA.out; omega) (by have := HBE.out.size; have := HS4.out; have := HBA.out; show base ≤ w6.heap.size; omega))).setCell (Nat.le_trans HBA.out.2.2.2 (Nat.le_add_right _ _)) _
      · have hsv : ¬ (inkP p J.used (pgs b J.used (J.used + r) pre)).snag = 1 := by
          show ¬ (if p.snag = 0 then 0 else p.snag - ((pgs b J.used (J.used + r) pre).length : Int)) = 1
          rw [pgs_len, hk]
          split <;> omega
        have hink := ink_put (w := w6.drew) (J.used + k) pg 0 HP6.out.drew hff hd hkl2 hblk HPL.out hpgb (by rw [if_neg hsv])
        have hst := inkP_next (x := pg) hlay (by rw [pgs_len, hk]; omega)
        rw [pgs_len, hk, ← hsnoc] at hst
        rw [hst] at hink
        refine T_one 6 (by kernel_rfl) ?_
        refine sOp_callD 65 19 #[.pointer (some ⟨g, 0, none⟩), .int .i64 ((J.used + k : Nat) : Int), .agg (bArr pg)] rfl rfl rfl (by go_simp) ?_
        refine hink.mono ?_
        rintro e w7 ⟨rfl, hp7, ho7⟩
        refine ⟨_, rfl, hDo _ _ ho7, ?_⟩
        simp only [List.setIfInBounds_toArray, List.set_cons_succ, List.set_cons_zero]
        refine T_one 7 (by kernel_rfl) (sOp_valueD 11 (.int .i64 0) w7 rfl rfl rfl (by go_simp) ?_)
        refine ⟨fun h => h, ?_⟩
        simp only [List.setIfInBounds_toArray, List.set_cons_succ, List.set_cons_zero]
        refine T_done (by kernel_rfl) ?_
        have HP7 := Lib.hid hp7
        have HO7 := Lib.hid ho7
        have HB17 := Lib.hid (ho7.blk HB16.out.drew (by omega) (by omega))
        have hb37 := ho7.blk HB36.out.drew (by omega) (by omega)
        have f1 := hb37.frozen 0
        have c1 : w7.cell? ⟨w.heap.size + 3, 0, none⟩ = some (.int .i64 ((J.used + k : Nat) : Int)) := by rw [hb37.cell]; rfl
        have HB37 := Lib.hid hb37
        clear hp7 ho7 hink hst hDo hD0 hCD hb37
        gi_wp2
        refine ⟨HKO.out.trans ((((KeepsOthers.drew w6).trans (Off.others HP6.out.drew HO7.out)).trans (KeepsOthers.setCell _ _ _)).from _), ?_, ⟨⟨HP7.out.far hne6.2.2.2.2.1.symm hne6.2.2.2.2.2.1.symm _, HB17.out.far (show w.heap.size + 1 ≠ w.heap.size + 3 by omega) _, ?_, ?_, by rw [hsnl]; omega⟩, ?_⟩⟩
        · exact FrX.setCell (HFW.out.trans (FrX.of_off (w := w6) ⟨HO7.out.os, HO7.out.tape, HO7.out.output, HO7.out.size, HO7.out.block⟩ (by simp) (by simp))) (by simp) _
        · have := HB37.out.set_ 0 (.int .i64 ((J.used + (k + 1) : Nat) : Int))
          rw [hsnl]
          rw [show ((J.used : Int) + (k : Int) + 1) = ((J.used + (k + 1) : Nat) : Int) from by omega]
          exact this
        · exact FrX.setCell (HFR.out.trans (FrX.of_off (w := w6) ⟨HO7.out.os, HO7.out.tape, HO7.out.output, HO7.out.size, HO7.out.block⟩ (by simp) (by simp))) (by simp) _
        · exact (HBE.out.drew.trans (HO7.out.below (by have := HBA.out; omega) (by have := HBA.out; omega) (by have := HBE.out.size; have := HS4.out; have := HBA.out; show base ≤ w6.heap.size; omega))).setCell (Nat.le_trans HBA.out.2.2.2 (Nat.le_add_right _ _)) _
    · refine sOp_valueD 9 (.pointer (some ⟨W.drew.heap.size, 0, none⟩)) (W.drew.alloc (.cells zArr 26)) rfl rfl rfl (by unfold execOp; simp [run_alloc W.drew 26 zArr Try.zero26]) ?_
      refine ⟨hCb _ _ ((Below.refl W.heap.size W.drew).alloc (Nat.le_refl _) _), ?_⟩
      simp only [List.setIfInBounds_toArray, List.set_cons_succ, List.set_cons_zero]
      refine T_one 11 (by kernel_rfl) ?_
      refine sOp_callD 56 30 #[.int .i64 ((J.used + k : Nat) : Int), .bool (decide (k = 0)), .bool (decide (J.used + k = J.used + r)), .slice (some ad') m m] rfl rfl rfl (by go_simp) ?_
      refine (hpage _ (Reads.alloc hnm.drew (Nat.le_refl _) _) (by simp)).mono ?_
      rintro e w5 ⟨er, rfl, hb5⟩
      refine ⟨_, rfl, hCb _ _ (hb5.mono (by simp)), ?_⟩
      simp only [List.setIfInBounds_toArray, List.set_cons_succ, List.set_cons_zero]
      refine T_calmD 12 44 (.tuple #[.agg (bArr pg), .int .i64 er]) rfl rfl rfl (by kernel_rfl) (by kernel_rfl) (by kernel_rfl) (fun _ _ _ h => h) (fun _ h => h) (fun w1 => by go_simp) ?_
      simp only [List.setIfInBounds_toArray, List.set_cons_succ, List.set_cons_zero]
      refine T_calmD 13 57 (.agg (bArr pg)) rfl rfl rfl (by kernel_rfl) (by kernel_rfl) (by kernel_rfl) (fun _ _ _ h => h) (fun _ h => h) (fun w1 => by go_simp) ?_
      simp only [List.setIfInBounds_toArray, List.set_cons_succ, List.set_cons_zero]
      refine T_calmD 14 58 (.int .i64 er) rfl rfl rfl (by kernel_rfl) (by kernel_rfl) (by kernel_rfl) (fun _ _ _ h => h) (fun _ h => h) (fun w1 => by go_simp) ?_
      simp only [List.setIfInBounds_toArray, List.set_cons_succ, List.set_cons_zero]
      have hZ : Blk w5 W.drew.heap.size 26 zArr := (Blk.new W.drew 26 zArr).below hb5 (by simp)
      refine T_one 16 (by kernel_rfl) (sOp_wp rfl rfl (wp_store_mid 26 _ _ rfl W.drew.heap.size 0 (bArr pg) rfl rfl (by rw [bArr_size HPL.out]; exact hZ.allThere zArr_size) (by rw [bArr_size HPL.out]; exact Try.size26) (bArr_one _) ?_))
      have hX : Blk (w5.setCells W.drew.heap.size 0 (bArr pg).toList) W.drew.heap.size 26 (bArr pg) := hZ.overwrite (by rw [bArr_size HPL.out, zArr_size])
      have hb7 : Below W.heap.size w5 (w5.setCells W.drew.heap.size 0 (bArr pg).toList) := (Off.refl W.drew.heap.size W.drew.heap.size _).setCells (.inl rfl) _ _ |>.below (Nat.le_refl _) (Nat.le_refl _) (Nat.le_of_lt hZ.lt)
      have hb6 : Below W.heap.size W (w5.setCells W.drew.heap.size 0 (bArr pg).toList) := ((((Below.refl W.heap.size W).drew.alloc (Nat.le_refl _) _).trans (hb5.mono (by simp)))).trans hb7
      refine ⟨hCb _ _ hb7, ?_⟩
      change wpAnyT _ _ _ _ _ _ _ _ (w5.setCells W.drew.heap.size 0 (bArr pg).toList)
      obtain ⟨bx, hbx⟩ : ∃ bx, W.drew.heap.size = bx := ⟨_, rfl⟩
      have hbx0 : W.heap.size ≤ bx := by rw [← hbx]; exact Nat.le_refl _
      rw [hbx] at hX hb6 ⊢
      generalize w5.setCells bx 0 (bArr pg).toList = w6 at *
      refine T_one 17 (by kernel_rfl) (sOp_valueD 10 (.int .i64 er) w6 rfl rfl rfl (by go_simp) ?_)
      refine ⟨fun h => h, ?_⟩
      simp only [List.setIfInBounds_toArray, List.set_cons_succ, List.set_cons_zero]
      refine T_done (by kernel_rfl) ?_
      clear hpage hnm hC0 hCb hCC
      have HP6 := Lib.hid (hP.below hb6)
      have HB06 := Lib.hid (hb0.below hb6 hb0.lt)
      have HB16 := Lib.hid (hb1.below hb6 hb1.lt)
      have HB36 := Lib.hid (hb3.below hb6 hb3.lt)
      have HBJ6 := Lib.hid (hbj.below hb6 hbj.lt)
      have HX6 := Lib.hid hX
      have HBE := Lib.hid (hbe.trans (hb6.mono (by have := hbe.size; have := HS4.out; have := HBA.out; omega)))
      have HFR := Lib.hid (hfr.trans (FrX.of_below hb6 _))
      have HKO := Lib.hid ((Below.others hb6).from w4.heap.size)
      have HFW := Lib.hid (FrX.of_below hb6 [g, h, w.heap.size + 1, w.heap.size + 3])
      have hne6 : w.heap.size ≠ g ∧ w.heap.size ≠ h ∧ w.heap.size + 1 ≠ g ∧ w.heap.size + 1 ≠ h ∧ w.heap.size + 3 ≠ g ∧ w.heap.size + 3 ≠ h ∧ j ≠ g ∧ j ≠ h ∧ bx ≠ g ∧ bx ≠ h := by
        have := HLT.out
        have := hP.lt
        have hj := hjj
        simp at hj
        omega
      obtain ⟨CD, hCD⟩ : ∃ CD : World → Prop, CD = fun W' => Blk W' w.heap.size 54 #[.pointer (some ⟨j, 0, none⟩)] ∧ Blk W' j 87 #[.pointer (some ⟨g, 0, none⟩), .int .i64 J.falls, v, .int .i64 J.used] ∧ Blk W' (w.heap.size + 3) 3 #[.int .i64 ((J.used + k : Nat) : Int)] ∧ Blk W' bx 26 (bArr pg) := ⟨_, rfl⟩
      have hD0 : CD w6.drew := by rw [hCD]; exact ⟨HB06.out, HBJ6.out, HB36.out, HX6.out⟩
      have hDo : ∀ w1 w2, Off g h w1 w2 → CD w1 → CD w2 := by
        intro w1 w2 ho hc
        rw [hCD] at hc ⊢
        obtain ⟨q1, q2, q3, q4⟩ := hc
        exact ⟨ho.blk q1 hne6.1 hne6.2.1, ho.blk q2 (by omega) (by omega), ho.blk q3 (by omega) (by omega), ho.blk q4 (by omega) (by omega)⟩
      clear hb6 hX hP hb0 hb1 hb2 hb3 hbj hfr hbe hfr0 hnW
      gi_wp2
      refine wpIn_region_T 8 (fun _ w1 w2 => CD w1 → CD w2) (by kernel_rfl) (by kernel_rfl) rfl ?_
      refine T_takeD CD 0 59 (.pointer (some ⟨j, 0, none⟩)) rfl rfl rfl (by kernel_rfl) (by kernel_rfl) (by kernel_rfl) (fun _ _ _ h => h) (fun _ h => h) (fun _ _ _ _ _ _ _ hk hc => hk hc) hD0 (fun w1 hc => by rw [hCD] at hc; obtain ⟨q1, q2, q3, q4⟩ := hc; have e := q1.cell 0; go_simp) ?_
      simp only [List.setIfInBounds_toArray, List.set_cons_succ, List.set_cons_zero]
      refine T_calmD 1 60 (.pointer (some ⟨j, 0, none⟩)) rfl rfl rfl (by kernel_rfl) (by kernel_rfl) (by kernel_rfl) (fun _ _ _ h => h) (fun _ h => h) (fun w1 => by go_simp) ?_
      simp only [List.setIfInBounds_toArray, List.set_cons_succ, List.set_cons_zero]
      refine T_calmD 2 61 (.pointer (some ⟨j, 0, none⟩)) rfl rfl rfl (by kernel_rfl) (by kernel_rfl) (by kernel_rfl) (fun _ _ _ h => h) (fun _ h => h) (fun w1 => by go_simp) ?_
      simp only [List.setIfInBounds_toArray, List.set_cons_succ, List.set_cons_zero]
      refine T_takeD CD 3 62 (.pointer (some ⟨g, 0, none⟩)) rfl rfl rfl (by kernel_rfl) (by kernel_rfl) (by kernel_rfl) (fun _ _ _ h => h) (fun _ h => h) (fun _ _ _ _ _ _ _ hk hc => hk hc) hD0 (fun w1 hc => by rw [hCD] at hc; obtain ⟨q1, q2, q3, q4⟩ := hc; have e := q2.cell 0; go_simp) ?_
      simp only [List.setIfInBounds_toArray, List.set_cons_succ, List.set_cons_zero]
      refine T_takeD CD 4 63 (.int .i64 ((J.used + k : Nat) : Int)) rfl rfl rfl (by kernel_rfl) (by kernel_rfl) (by kernel_rfl) (fun _ _ _ h => h) (fun _ h => h) (fun _ _ _ _ _ _ _ hk hc => hk hc) hD0 (fun w1 hc => by rw [hCD] at hc; obtain ⟨q1, q2, q3, q4⟩ := hc; have e := q3.cell 0; go_simp) ?_
      simp only [List.setIfInBounds_toArray, List.set_cons_succ, List.set_cons_zero]
      refine T_takeD CD 5 64 (.agg (bArr pg)) rfl rfl rfl (by kernel_rfl) (by kernel_rfl) (by kernel_rfl) (fun _ _ _ h => h) (fun _ h => h) (fun _ _ _ _ _ _ _ hk hc => hk hc) hD0 (fun w1 hc => by rw [hCD] at hc; obtain ⟨q1, q2, q3, q4⟩ := hc; exact run_load26 (.tmp 9) rfl rfl q4 HPL.out) ?_
      simp only [List.setIfInBounds_toArray, List.set_cons_succ, List.set_cons_zero]
      have hlay : J.used + (pgs b J.used (J.used + r) pre).length < p.l.length := by rw [pgs_len, hk]; have := H0.out; have := HND.out; have := HFIT.out; omega
      have hll := layL_length (Nat.le_of_lt hlay)
      have hblk : ((inkP p J.used (pgs b J.used (J.used + r) pre)).at (J.used + k)).is = 0 := by
        have e := layL_at (m := J.used + k) (Nat.le_of_lt hlay) (by rw [pgs_len, hk]; exact Nat.le_refl _)
        show ((layL p.l J.used (pgs b J.used (J.used + r) pre)).getD (J.used + k) Lf.zero).is = 0
        rw [e]
        exact HBL.out _ (by omega) (by have := hlay; rw [pgs_len, hk] at this; exact this)
      have hkl2 : J.used + k < (inkP p J.used (pgs b J.used (J.used + r) pre)).l.length := by show _ < (layL p.l J.used _).length; rw [hll]; rw [pgs_len, hk] at hlay; exact hlay
      have hsnoc : pgs b J.used (J.used + r) (pre ++ [x]) = pgs b J.used (J.used + r) pre ++ [pg] := by rw [pgs_snoc, hk, HPG.out]
      have hsnl : (pre ++ [x]).length = k + 1 := by simp [hk]
      by_cases hhit : p.snag = ((k : Nat) : Int) + 1
      · have hsv : (inkP p J.used (pgs b J.used (J.used + r) pre)).snag = 1 := by
          show (if p.snag = 0 then 0 else p.snag - ((pgs b J.used (J.used + r) pre).length : Int)) = 1
          rw [pgs_len, hk, if_neg (by omega)]
          omega
        have hink := ink_put (w := w6.drew) (J.used + k) pg 15 HP6.out.drew hff hd hkl2 hblk HPL.out hpgb (by rw [if_pos hsv])
        have hst := inkP_hit (x := pg) hlay (by rw [pgs_len, hk]; exact hhit)
        rw [pgs_len, hk, ← hsnoc] at hst
        rw [hst] at hink
        refine T_one 6 (by kernel_rfl) ?_
        refine sOp_callD 65 19 #[.pointer (some ⟨g, 0, none⟩), .int .i64 ((J.used + k : Nat) : Int), .agg (bArr pg)] rfl rfl rfl (by go_simp) ?_
        refine hink.mono ?_
        rintro e w7 ⟨rfl, hp7, ho7⟩
        refine ⟨_, rfl, hDo _ _ ho7, ?_⟩
        simp only [List.setIfInBounds_toArray, List.set_cons_succ, List.set_cons_zero]
        refine T_one 7 (by kernel_rfl) (sOp_valueD 11 (.int .i64 15) w7 rfl rfl rfl (by go_simp) ?_)
        refine ⟨fun h => h, ?_⟩
        simp only [List.setIfInBounds_toArray, List.set_cons_succ, List.set_cons_zero]
        refine T_done (by kernel_rfl) ?_
        have HP7 := Lib.hid hp7
        have HO7 := Lib.hid ho7
        have hb17 := ho7.blk HB16.out.drew (by omega) (by omega)
        have f1 := hb17.frozen 0
        have c1 : w7.cell? ⟨w.heap.size + 1, 0, none⟩ = some (.int .i64 0) := by rw [hb17.cell]; rfl
        have HB17 := Lib.hid hb17
        clear hp7 ho7 hink hst hDo hD0 hCD hb17
        gi_wp2
        refine ⟨HKO.out.trans ((((KeepsOthers.drew w6).trans (Off.others HP6.out.drew HO7.out)).trans (KeepsOthers.setCell _ _ _)).from _), ⟨⟨rfl, ⟨by rw [hsnl]; omega, by omega⟩, HP7.out.far hne6.2.2.1.symm hne6.2.2.2.1.symm _, HB17.out.set_ 0 _, ?_⟩, ?_⟩⟩
        · exact FrX.setCell (HFR.out.trans (FrX.of_off (w := w6) ⟨HO7.out.os, HO7.out.tape, HO7.out.output, HO7.out.size, HO7.out.block⟩ (by simp) (by simp))) (by simp) _
        · exact (HBE.out.drew.trans (HO7.out.below (by have := HBA.out; omega) (by have := HBA.out; omega) (by have := HBE.out.size; have := HS4.out; have := HBA.out; show base ≤ w6.heap.size; omega))).setCell (Nat.le_trans HBA.out.2.2.2 (Nat.le_add_right _ _)) _
      · have hsv : ¬ (inkP p J.used (pgs b J.used (J.used + r) pre)).snag = 1 := by
          show ¬ (if p.snag = 0 then 0 else p.snag - ((pgs b J.used (J.used + r) pre).length : Int)) = 1
          rw [pgs_len, hk]
          split <;> omega
        have hink := ink_put (w := w6.drew) (J.used + k) pg 0 HP6.out.drew hff hd hkl2 hblk HPL.out hpgb (by rw [if_neg hsv])
        have hst := inkP_next (x := pg) hlay (by rw [pgs_len, hk]; omega)
        rw [pgs_len, hk, ← hsnoc] at hst
        rw [hst] at hink
        refine T_one 6 (by kernel_rfl) ?_
        refine sOp_callD 65 19 #[.pointer (some ⟨g, 0, none⟩), .int .i64 ((J.used + k : Nat) : Int), .agg (bArr pg)] rfl rfl rfl (by go_simp) ?_
        refine hink.mono ?_
        rintro e w7 ⟨rfl, hp7, ho7⟩
        refine ⟨_, rfl, hDo _ _ ho7, ?_⟩
        simp only [List.setIfInBounds_toArray, List.set_cons_succ, List.set_cons_zero]
        refine T_one 7 (by kernel_rfl) (sOp_valueD 11 (.int .i64 0) w7 rfl rfl rfl (by go_simp) ?_)
        refine ⟨fun h => h, ?_⟩
        simp only [List.setIfInBounds_toArray, List.set_cons_succ, List.set_cons_zero]
        refine T_done (by kernel_rfl) ?_
        have HP7 := Lib.hid hp7
        have HO7 := Lib.hid ho7
        have HB17 := Lib.hid (ho7.blk HB16.out.drew (by omega) (by omega))
        have hb37 := ho7.blk HB36.out.drew (by omega) (by omega)
        have f1 := hb37.frozen 0
        have c1 : w7.cell? ⟨w.heap.size + 3, 0, none⟩ = some (.int .i64 ((J.used + k : Nat) : Int)) := by rw [hb37.cell]; rfl
        have HB37 := Lib.hid hb37
        clear hp7 ho7 hink hst hDo hD0 hCD hb37
        gi_wp2
        refine ⟨HKO.out.trans ((((KeepsOthers.drew w6).trans (Off.others HP6.out.drew HO7.out)).trans (KeepsOthers.setCell _ _ _)).from _), ?_, ⟨⟨HP7.out.far hne6.2.2.2.2.1.symm hne6.2.2.2.2.2.1.symm _, HB17.out.far (show w.heap.size + 1 ≠ w.heap.size + 3 by omega) _, ?_, ?_, by rw [hsnl]; omega⟩, ?_⟩⟩
        · exact FrX.setCell (HFW.out.trans (FrX.of_off (w := w6) ⟨HO7.out.os, HO7.out.tape, HO7.out.output, HO7.out.size, HO7.out.block⟩ (by simp) (by simp))) (by simp) _
        · have := HB37.out.set_ 0 (.int .i64 ((J.used + (k + 1) : Nat) : Int))
          rw [hsnl]
          rw [show ((J.used : Int) + (k : Int) + 1) = ((J.used + (k + 1) : Nat) : Int) from by omega]
          exact this
        · exact FrX.setCell (HFR.out.trans (FrX.of_off (w := w6) ⟨HO7.out.os, HO7.out.tape, HO7.out.output, HO7.out.size, HO7.out.block⟩ (by simp) (by simp))) (by simp) _
        · exact (HBE.out.drew.trans (HO7.out.below (by have := HBA.out; omega) (by have := HBA.out; omega) (by have := HBE.out.size; have := HS4.out; have := HBA.out; show base ≤ w6.heap.size; omega))).setCell (Nat.le_trans HBA.out.2.2.2 (Nat.le_add_right _ _)) _
  case stop =>
    rintro D c pre W hD ⟨k, hk, rfl⟩ ⟨⟨rfl, ⟨hsn, hs1⟩, hP, hb1, hfr⟩, hbe⟩ hK
    rw [List.length_range] at hsn
    have hnn : k ≤ need b := by rw [H0.out]; exact hk
    have hpad : pgs b J.used (J.used + r) (List.range k) = (pagesV J.used b).take p.snag.toNat := by
      unfold pagesV
      rw [show (b.length - 1) / 41 = r from by rw [HLB.out]; exact HR0.out, pgs_take _ _ _ _ _ (by omega)]
      congr 1
      rw [hsn]
      simp
    rw [hpad] at hP
    have hc5 := cell_kept (show W.cell? ⟨w.heap.size + 1, 0, none⟩ = some (.int .i64 15) by rw [hb1.cell]; rfl) (grownBy_putObj' _ D (.deferred none)) (fun r e => by cases e; exact ⟨_, hK, rfl⟩)
    have hgr := grownBy_putObj' W D (.deferred none)
    have hrr : ∀ r, some D = some r → ∃ o : Obj, W.heap[r]? = some o ∧ o.isCells = false := fun r e => by cases e; exact ⟨_, hK, rfl⟩
    have hbD := belowK_b (n₀ := base) (w := w) (by have := HBA.out; omega) W D (.deferred (some [])) (.deferred none) (by have := HS4.out; omega) hK rfl rfl
    have hfF := hfr.turn hgr hrr
    gi_wp2
    refine ⟨by simp, .inl ⟨_, _, rfl, run_takeDeferred hK, ?_⟩⟩
    refine ⟨.int .i64 15, ?_, .inr ⟨rfl, by omega, by omega, hP.turn hgr hrr, HJF.out _ hfF, ((HBW4.out.mono (by have := HBA.out; omega)).trans hbe).trans hbD, HSF.out _ hfF⟩⟩
    simp [results, Try.f37, go_sem, hc5]
  case done =>
    rintro D ys W hD rfl ⟨⟨hP, hb1, hb3, hfr, hsn⟩, hbe⟩ hK
    rw [List.length_range] at hsn hb3
    rw [show pgs b J.used (J.used + r) (List.range ((len + 40) / 41)) = pagesV J.used b from by unfold pagesV; rw [show (b.length - 1) / 41 = r from by rw [HLB.out]; exact HR0.out, H0.out]] at hP
    have hbj := hfr _ _ _ HJN.out HA4.out.head
    have hb0 : Blk W w.heap.size 54 #[.pointer (some ⟨j, 0, none⟩)] := hfr _ _ _ (by have := HLT.out; simp; omega) HB04.out
    have e1 : W.cell? ⟨w.heap.size, 0, none⟩ = some (.pointer (some ⟨j, 0, none⟩)) := by rw [hb0.cell]; rfl
    have e2 : W.cell? ⟨j, 0, none⟩ = some (.pointer (some ⟨g, 0, none⟩)) := by rw [hbj.cell]; rfl
    have HPW := Lib.hid hP
    have HB1 := Lib.hid hb1
    have HB3 := Lib.hid hb3
    have HB0 := Lib.hid hb0
    have HBJ := Lib.hid hbj
    have HFR := Lib.hid hfr
    have HBE := Lib.hid hbe
    have HK := Lib.hid hK
    have HSN := Lib.hid hsn
    clear hP hb1 hb3 hb0 hbj hfr hbe hK hsn
    by_cases hend : p.snag = ((need b : Nat) : Int) + 1
    · have hsv : (inkP p J.used (pagesV J.used b)).snag = 1 := by
        show (if p.snag = 0 then 0 else p.snag - ((pagesV J.used b).length : Int)) = 1
        rw [pagesV_len, if_neg (by omega)]
        omega
      have hdry := dry_snag HPW.out hff hd hsv
      rw [inkP_end (by rw [pagesV_len]; exact hend)] at hdry
      have HDRY := Lib.hid hdry
      clear hdry hsv
      go_wp2_with fail
      refine HDRY.out.mono ?_
      rintro e w5 ⟨rfl, hp5, ho5⟩
      have hb15 := ho5.blk HB1.out (by have := HLT.out; omega) (by have := HLT.out; omega)
      have f1 := hb15.frozen 0
      have c1 : w5.cell? ⟨w.heap.size + 1, 0, none⟩ = some (.int .i64 0) := by rw [hb15.cell]; rfl
      have HP5 := Lib.hid hp5
      have HO5 := Lib.hid ho5
      have HB15 := Lib.hid hb15
      clear hp5 ho5 hb15 e1 e2
      go_wp2_with fail
      have hK5 := (KeepsOthers.setCell w5 ⟨w.heap.size + 1, 0, none⟩ (.int .i64 15)).same D _ ((Off.others HPW.out HO5.out).same D _ HK.out rfl) rfl
      have hgr := grownBy_putObj' (w5.setCell ⟨w.heap.size + 1, 0, none⟩ (.int .i64 15)) D (.deferred none)
      have hrr : ∀ r, some D = some r → ∃ o : Obj, (w5.setCell ⟨w.heap.size + 1, 0, none⟩ (.int .i64 15)).heap[r]? = some o ∧ o.isCells = false := fun r e => by cases e; exact ⟨_, hK5, rfl⟩
      have hc5 := cell_kept (show (w5.setCell ⟨w.heap.size + 1, 0, none⟩ (.int .i64 15)).cell? ⟨w.heap.size + 1, 0, none⟩ = some (.int .i64 15) by rw [(HB15.out.set_ 0 (.int .i64 15)).cell]; rfl) hgr hrr
      have hbD := belowK_b (n₀ := base) (w := w) (by have := HBA.out; omega) (w5.setCell ⟨w.heap.size + 1, 0, none⟩ (.int .i64 15)) D (.deferred (some [])) (.deferred none) (by have := HS4.out; omega) hK5 rfl rfl
      have hfF := (FrX.setCell (HFR.out.trans (FrX.of_off HO5.out (by simp) (by simp))) (p := ⟨w.heap.size + 1, 0, none⟩) (by simp) (.int .i64 15)).turn hgr hrr
      refine ⟨by simp, .inl ⟨_, _, rfl, run_takeDeferred hK5, ?_⟩⟩
      refine ⟨.int .i64 15, ?_, .inr ⟨rfl, by omega, by omega, ?_, HJF.out _ hfF, (((HBW4.out.mono (by have := HBA.out; omega)).trans HBE.out).trans ((HO5.out.below (by have := HBA.out; omega) (by have := HBA.out; omega) (by have := HBE.out.size; have := HS4.out; have := HBA.out; omega)).setCell (Nat.le_trans HBA.out.2.2.2 (Nat.le_add_right _ _)) _)).trans hbD, HSF.out _ hfF⟩⟩
      · simp [results, Try.f37, go_sem, hc5]
      · rw [List.take_of_length_le (by rw [pagesV_len]; omega)]
        exact (HP5.out.far (by have := HLT.out; show g ≠ w.heap.size + 1; omega) (by have := HLT.out; show h ≠ w.heap.size + 1; omega) _).turn hgr hrr
    · have hsv : ¬ (inkP p J.used (pagesV J.used b)).snag = 1 := by
        show ¬ (if p.snag = 0 then 0 else p.snag - ((pagesV J.used b).length : Int)) = 1
        rw [pagesV_len]
        split <;> omega
      have hdry := dry_up HPW.out hff hd hsv
      have HDRY := Lib.hid hdry
      clear hdry hsv
      go_wp2_with fail
      refine HDRY.out.mono ?_
      rintro e w5 ⟨rfl, hp5, ho5⟩
      have HP5 := Lib.hid hp5
      have HO5 := Lib.hid ho5
      clear hp5 ho5 e1 e2
      go_wp2_with fail
      have hN0 := HLT.out
      have hbj := HO5.out.blk HBJ.out (by have := HJN.out; simp at this; omega) (by have := HJN.out; simp at this; omega)
      have hb0 := HO5.out.blk HB0.out (by omega) (by omega)
      have hb3 := HO5.out.blk HB3.out (by omega) (by omega)
      have hb1 := HO5.out.blk HB1.out (by omega) (by omega)
      rw [← H0.out] at hb3
      have hfr5 : FrX [g, h, w.heap.size + 1, w.heap.size + 3] w w5 := ((FrX.of_below HBW4.out _).trans HFR.out).trans (FrX.of_off HO5.out (by simp) (by simp))
      have hs5 : w.heap.size + 6 ≤ w5.heap.size := by have := HO5.out.size; have := HBE.out.size; have := HS4.out; omega
      have hbe5 : Below base w w5 := ((HBW4.out.mono (by have := HBA.out; omega)).trans HBE.out).trans (HO5.out.below (by have := HBA.out; omega) (by have := HBA.out; omega) (by have := HBE.out.size; have := HS4.out; have := HBA.out; omega))
      have hn5 : Nums .u8 w5 B (some ad) len b := nums_keep HM.out (by omega) hfr5 hbe5 (by have := HNE.out; simp; omega) HAB.out
      have hnu : Nums .u8 w5.drew w5.drew.heap.size (some ad) len b := nums_bound (show Nums .u8 w5.drew B (some ad) len b from hn5) (show ad.block < w5.heap.size by omega)
      have hvb := HA0.out.recs.block
      obtain ⟨vs, hown, hvl, hbs⟩ := HA0.out.recs
      have hown5 : w5.ownsRow base 44 1 v J.l.length vs := own_frx hown hfr5 (fun k hk => by
        obtain ⟨_, hk2, cs, hk3⟩ := hvb k hk
        have e1 : k ≠ g := fun e => by subst e; exact absurd ((hk3.below HBW4.out hk3.lt).ty HP4.out.head) (by decide)
        have e2 : k ≠ h := fun e => by subst e; exact absurd ((hk3.below HBW4.out hk3.lt).ty HP4.out.row) (by decide)
        simp; omega)
      have hvne : ∀ k, v.ownBlock = some k → k ≠ g ∧ k ≠ h ∧ k ≠ j ∧ k < w.heap.size ∧ base ≤ k := fun k hk => by
        obtain ⟨hk1, hk2, cs, hk3⟩ := hvb k hk
        refine ⟨fun e => ?_, fun e => ?_, fun e => ?_, hk2, hk1⟩
        · subst e; exact absurd ((hk3.below HBW4.out hk3.lt).ty HP4.out.head) (by decide)
        · subst e; exact absurd ((hk3.below HBW4.out hk3.lt).ty HP4.out.row) (by decide)
        · subst e; exact absurd ((hk3.below HBW4.out hk3.lt).ty HA4.out.head) (by decide)
      obtain ⟨C0, hC0⟩ : ∃ C0 : World → Prop, C0 = fun W' => W'.cell? ⟨w.heap.size, 0, none⟩ = some (.pointer (some ⟨j, 0, none⟩)) ∧ W'.cell? ⟨w.heap.size + 3, 0, none⟩ = some (.int .i64 ((J.used + need b : Nat) : Int)) ∧ True := ⟨_, rfl⟩
      obtain ⟨C1, hC1⟩ : ∃ C1 : World → Prop, C1 = fun W' => W'.cell? ⟨j, 2, none⟩ = some v ∧ True ∧ True := ⟨_, rfl⟩
      have h00 : C0 w5.drew := by
        rw [hC0]
        refine ⟨?_, ?_, trivial⟩
        · rw [hb0.drew.cell]; rfl
        · rw [hb3.drew.cell]; rfl
      have h10 : C1 w5.drew := by
        rw [hC1]
        refine ⟨?_, trivial, trivial⟩
        rw [hbj.drew.cell]; rfl
      have hC0b : ∀ w1 w2, w1.cell? ⟨w.heap.size, 0, none⟩ = w2.cell? ⟨w.heap.size, 0, none⟩ → w1.cell? ⟨w.heap.size + 3, 0, none⟩ = w2.cell? ⟨w.heap.size + 3, 0, none⟩ → C0 w1 → C0 w2 := by
        intro w1 w2 e1 e2 hc
        rw [hC0] at hc ⊢
        exact ⟨e1 ▸ hc.1, e2 ▸ hc.2.1, trivial⟩
      have hC1b : ∀ w1 w2, w1.cell? ⟨j, 2, none⟩ = w2.cell? ⟨j, 2, none⟩ → C1 w1 → C1 w2 := by
        intro w1 w2 e1 hc
        rw [hC1] at hc ⊢
        exact ⟨e1 ▸ hc.1, trivial, trivial⟩
      refine wp_region_TN 17 (fun i w1 w2 => (C0 w1 → C0 w2) ∧ ((i = 13 ∨ i = 16) ∨ (C1 w1 → C1 w2))) (by kernel_rfl) rfl ?_
      refine T_takeD C0 0 79 (.pointer (some ⟨j, 0, none⟩)) rfl rfl rfl (by kernel_rfl) (by kernel_rfl) (by kernel_rfl) (fun _ _ _ h => onlyN_panic h) (fun _ => ⟨id, .inr id⟩) (fun _ _ _ _ _ _ _ hk hc => hk.1 hc) h00 (fun w1 hc => by rw [hC0] at hc; obtain ⟨q1, q2, q3⟩ := hc; go_simp) ?_
      simp only [List.setIfInBounds_toArray, List.set_cons_succ, List.set_cons_zero]
      refine T_takeD C0 1 80 (.pointer (some ⟨j, 0, none⟩)) rfl rfl rfl (by kernel_rfl) (by kernel_rfl) (by kernel_rfl) (fun _ _ _ h => onlyN_panic h) (fun _ => ⟨id, .inr id⟩) (fun _ _ _ _ _ _ _ hk hc => hk.1 hc) h00 (fun w1 hc => by rw [hC0] at hc; obtain ⟨q1, q2, q3⟩ := hc; go_simp) ?_
      simp only [List.setIfInBounds_toArray, List.set_cons_succ, List.set_cons_zero]
      refine T_takeD C0 2 81 (.pointer (some ⟨j, 0, none⟩)) rfl rfl rfl (by kernel_rfl) (by kernel_rfl) (by kernel_rfl) (fun _ _ _ h => onlyN_panic h) (fun _ => ⟨id, .inr id⟩) (fun _ _ _ _ _ _ _ hk hc => hk.1 hc) h00 (fun w1 hc => by rw [hC0] at hc; obtain ⟨q1, q2, q3⟩ := hc; go_simp) ?_
      simp only [List.setIfInBounds_toArray, List.set_cons_succ, List.set_cons_zero]
      refine T_calmD 3 82 (.pointer (some ⟨j, 0, none⟩)) rfl rfl rfl (by kernel_rfl) (by kernel_rfl) (by kernel_rfl) (fun _ _ _ h => onlyN_panic h) (fun _ => ⟨id, .inr id⟩) (fun w1 => by go_simp) ?_
      simp only [List.setIfInBounds_toArray, List.set_cons_succ, List.set_cons_zero]
      refine T_calmD 4 83 (.pointer (some ⟨j, 2, none⟩)) rfl rfl rfl (by kernel_rfl) (by kernel_rfl) (by kernel_rfl) (fun _ _ _ h => onlyN_panic h) (fun _ => ⟨id, .inr id⟩) (fun w1 => by go_simp) ?_
      simp only [List.setIfInBounds_toArray, List.set_cons_succ, List.set_cons_zero]
      refine T_takeD C1 5 84 v rfl rfl rfl (by kernel_rfl) (by kernel_rfl) (by kernel_rfl) (fun _ _ _ h => onlyN_panic h) (fun _ => ⟨id, .inr id⟩) (fun jj oj hoj _ hno _ _ hk hc => hk.2.elim (fun e => by rcases e with rfl | rfl <;> (injection hoj with hoj; subst hoj; exact absurd rfl (hno ⟨5, Ground.phase⟩ (by simp) rfl))) (fun hk => hk hc)) h10 (fun w1 hc => by rw [hC1] at hc; obtain ⟨q1, q2, q3⟩ := hc; go_simp) ?_
      simp only [List.setIfInBounds_toArray, List.set_cons_succ, List.set_cons_zero]
      refine T_calmD 6 85 (.slice (some ad) len cap) rfl rfl rfl (by kernel_rfl) (by kernel_rfl) (by kernel_rfl) (fun _ _ _ h => onlyN_panic h) (fun _ => ⟨id, .inr id⟩) (fun w1 => by go_simp) ?_
      simp only [List.setIfInBounds_toArray, List.set_cons_succ, List.set_cons_zero]
      refine T_takeD C0 10 89 (.int .i64 ((J.used + need b : Nat) : Int)) rfl rfl rfl (by kernel_rfl) (by kernel_rfl) (by kernel_rfl) (fun _ _ _ h => onlyN_panic h) (fun _ => ⟨id, .inr id⟩) (fun _ _ _ _ _ _ _ hk hc => hk.1 hc) h00 (fun w1 hc => by rw [hC0] at hc; obtain ⟨q1, q2, q3⟩ := hc; go_simp) ?_
      simp only [List.setIfInBounds_toArray, List.set_cons_succ, List.set_cons_zero]
      refine T_one 7 (by kernel_rfl) ?_
      refine sOp_callD 86 56 #[.slice (some ad) len cap] rfl rfl rfl (by go_simp) ?_
      refine (clone_any ad len cap _ b _ hnu (Nat.le_refl _) h1 h2).mono ?_
      rintro e w6 ⟨v6, rfl, hob, hb6⟩
      obtain ⟨A6, c6, hv6, _⟩ := own_form hob
      subst hv6
      have hcell6 : ∀ k i, k < w5.heap.size → w5.drew.cell? ⟨k, i, none⟩ = w6.cell? ⟨k, i, none⟩ := fun k i hk => (hb6.cell (p := ⟨k, i, none⟩) hk).symm
      refine ⟨_, rfl, ⟨hC0b _ _ (hcell6 _ _ (by omega)) (hcell6 _ _ (by omega)), .inr (hC1b _ _ (hcell6 _ _ (by omega)))⟩, ?_⟩
      simp only [List.setIfInBounds_toArray, List.set_cons_succ, List.set_cons_zero]
      refine T_one 8 (by kernel_rfl) (sOp_valueD 87 (.slice (some ⟨w6.heap.size, 0, none⟩) 1 1) (w6.alloc (.cells #[.slice A6 b.length c6] 44)) rfl rfl rfl ?_ ?_)
      · go_simp
      have hal : Below w6.heap.size w6 (w6.alloc (.cells #[.slice A6 b.length c6] 44)) := (Below.refl _ _).alloc (Nat.le_refl _) _
      have hs6 : w5.heap.size ≤ w6.heap.size := hb6.size
      have hcell7 : ∀ k i, k < w5.heap.size → w6.cell? ⟨k, i, none⟩ = (w6.alloc (.cells #[.slice A6 b.length c6] 44)).cell? ⟨k, i, none⟩ := fun k i hk => (hal.cell (p := ⟨k, i, none⟩) (Nat.lt_of_lt_of_le hk hs6)).symm
      refine ⟨⟨hC0b _ _ (hcell7 _ _ (by omega)) (hcell7 _ _ (by omega)), .inr (hC1b _ _ (hcell7 _ _ (by omega)))⟩, ?_⟩
      simp only [List.setIfInBounds_toArray, List.set_cons_succ, List.set_cons_zero]
      have hnb7 : Blk (w6.alloc (.cells #[.slice A6 b.length c6] 44)) w6.heap.size 44 #[.slice A6 b.length c6] := Blk.new w6 44 _
      have hb67 : Below w5.heap.size w5 (w6.alloc (.cells #[.slice A6 b.length c6] 44)) := ((Below.refl w5.heap.size w5).drew.trans hb6).trans (hal.mono hs6)
      have hob7 : OwnB (w6.alloc (.cells #[.slice A6 b.length c6] 44)) w5.heap.size (.slice A6 b.length c6) b := hob.safe (Safe.of_below hal none) (fun k e => by cases e)
      have hsz7 : (w6.alloc (.cells #[.slice A6 b.length c6] 44)).heap.size = w6.heap.size + 1 := by simp
      have hown7 : (w6.alloc (.cells #[.slice A6 b.length c6] 44)).ownsRow base 44 1 v J.l.length vs := own_frx hown5 (FrX.of_below hb67 []) (fun k _ => by simp)
      have hmany := HA0.out.many
      have hbw := HBA.out.2.2.2
      obtain ⟨i0, hi, hz0, hz1, hz2⟩ := info_parts Try.info44
      generalize w6.alloc (.cells #[.slice A6 b.length c6] 44) = w7 at *
      refine T_one 9 (by kernel_rfl) (sOp_wp rfl rfl (wp_append_lies w7 _ _ 58 rfl base 44 i0 _ 1 24 Try.underlying58 hi hz0 hz1 hz2 rfl (by decide) v J.l.length vs rfl hown7 ⟨w6.heap.size, 0, none⟩ 1 1 [.slice A6 b.length c6] rfl rfl ?a1 ?a2 (by omega) (by unfold maxLen; omega) (by omega) (by omega) _ rfl ?a3))
      case a1 =>
        intro jj u hu
        rw [Addr.add_lit, hnb7.cell, Nat.zero_add, ← hu]
        simp
      case a2 =>
        intro u hu
        rw [List.mem_singleton] at hu
        subst hu
        rfl
      intro gg cap' w8 hown8 hgr8 hat8 hlt8
      have hvn : ∀ k, v.ownBlock = some k → k ≠ w.heap.size ∧ k ≠ w.heap.size + 3 ∧ k ≠ j := fun k hk => by have := hvne k hk; omega
      have hcell8 : ∀ k i, k < w5.heap.size → (∀ k', v.ownBlock = some k' → k' ≠ k) → w7.cell? ⟨k, i, none⟩ = w8.cell? ⟨k, i, none⟩ := fun k i hk hn => (World.cell?_of_block (a := ⟨k, i, none⟩) (hgr8.block k (by omega) (fun e => hn k e.symm rfl))).symm
      refine ⟨⟨hC0b _ _ (hcell8 _ _ (by omega) (fun k hk => (hvn k hk).1)) (hcell8 _ _ (by omega) (fun k hk => (hvn k hk).2.1)), .inr (hC1b _ _ (hcell8 _ _ (by omega) (fun k hk => (hvn k hk).2.2)))⟩, ?_⟩
      simp only [Act.put, List.setIfInBounds_toArray, List.set_cons_succ, List.set_cons_zero]
      have hbj8 : Blk w8 j 87 #[.pointer (some ⟨g, 0, none⟩), .int .i64 J.falls, v, .int .i64 J.used] := (hbj.below hb67 hbj.lt).grown hgr8 (fun e => (hvn j e.symm).2.2 rfl)
      have cj2 : w8.cell? ⟨j, 2, none⟩ = some v := by rw [hbj8.cell]; rfl
      have fj2 := hbj8.frozen 2
      refine T_calmD 11 90 (.pointer (some ⟨j, 0, none⟩)) rfl rfl rfl (by kernel_rfl) (by kernel_rfl) (by kernel_rfl) (fun _ _ _ h => onlyN_panic h) (fun _ => ⟨id, .inr id⟩) (fun w1 => by go_simp) ?_
      simp only [List.setIfInBounds_toArray, List.set_cons_succ, List.set_cons_zero]
      refine T_calmD 12 91 (.pointer (some ⟨j, 2, none⟩)) rfl rfl rfl (by kernel_rfl) (by kernel_rfl) (by kernel_rfl) (fun _ _ _ h => onlyN_panic h) (fun _ => ⟨id, .inr id⟩) (fun w1 => by go_simp) ?_
      simp only [List.setIfInBounds_toArray, List.set_cons_succ, List.set_cons_zero]
      have hj8 := hbj8.set_ 2 (.slice (some ⟨gg, 0, none⟩) (J.l.length + 1) cap')
      refine T_one 13 (by kernel_rfl) (sOp_skip (w8.setCell ⟨j, 2, none⟩ (.slice (some ⟨gg, 0, none⟩) (J.l.length + 1) cap')) rfl rfl rfl (by go_simp) ?_)
      refine ⟨⟨hC0b _ _ (World.cell?_setCell_other _ _ _ _ (fun e => by injection e with e; omega)).symm (World.cell?_setCell_other _ _ _ _ (fun e => by injection e with e; omega)).symm, .inl (.inl rfl)⟩, ?_⟩
      refine T_calmD 14 92 (.pointer (some ⟨j, 0, none⟩)) rfl rfl rfl (by kernel_rfl) (by kernel_rfl) (by kernel_rfl) (fun _ _ _ h => onlyN_panic h) (fun _ => ⟨id, .inr id⟩) (fun w1 => by go_simp) ?_
      simp only [List.setIfInBounds_toArray, List.set_cons_succ, List.set_cons_zero]
      refine T_calmD 15 93 (.pointer (some ⟨j, 3, none⟩)) rfl rfl rfl (by kernel_rfl) (by kernel_rfl) (by kernel_rfl) (fun _ _ _ h => onlyN_panic h) (fun _ => ⟨id, .inr id⟩) (fun w1 => by go_simp) ?_
      simp only [List.setIfInBounds_toArray, List.set_cons_succ, List.set_cons_zero]
      have cj3 : (w8.setCell ⟨j, 2, none⟩ (.slice (some ⟨gg, 0, none⟩) (J.l.length + 1) cap')).cell? ⟨j, 3, none⟩ = some (.int .i64 J.used) := by rw [hj8.cell]; rfl
      have fj3 := hj8.frozen 3
      refine T_one 16 (by kernel_rfl) (sOp_skip ((w8.setCell ⟨j, 2, none⟩ (.slice (some ⟨gg, 0, none⟩) (J.l.length + 1) cap')).setCell ⟨j, 3, none⟩ (.int .i64 ((J.used + need b : Nat) : Int))) rfl rfl rfl (by go_simp) ?_)
      refine ⟨⟨hC0b _ _ (World.cell?_setCell_other _ _ _ _ (fun e => by injection e with e; omega)).symm (World.cell?_setCell_other _ _ _ _ (fun e => by injection e with e; omega)).symm, .inl (.inr rfl)⟩, ?_⟩
      refine T_done (by kernel_rfl) ⟨rfl, ?_⟩
      obtain ⟨v', hv'⟩ : ∃ v' : Value, .slice (some ⟨gg, 0, none⟩) (J.l.length + 1) cap' = v' := ⟨_, rfl⟩
      have hvo : v'.ownBlock = some gg := by rw [← hv']; rfl
      rw [hv'] at hown8 hj8 ⊢
      have hj9 := hj8.set_ 3 (.int .i64 ((J.used + need b : Nat) : Int))
      have hvin : ∀ k, v.ownBlock = some k → k ∈ j :: v.ownBlock.toList := fun k hk => by rw [hk]; simp
      have hf10 : FrX (j :: v.ownBlock.toList) w7 ((w8.setCell ⟨j, 2, none⟩ v').setCell ⟨j, 3, none⟩ (.int .i64 ((J.used + need b : Nat) : Int))) := ((FrX.grown hgr8 hvin).setCell (by simp) _).setCell (by simp) _
      have hf18 : FrX [j] w8 ((w8.setCell ⟨j, 2, none⟩ v').setCell ⟨j, 3, none⟩ (.int .i64 ((J.used + need b : Nat) : Int))) := ((FrX.refl _ _).setCell (by simp) _).setCell (by simp) _
      have hbw8 : Below base w5 ((w8.setCell ⟨j, 2, none⟩ v').setCell ⟨j, 3, none⟩ (.int .i64 ((J.used + need b : Nat) : Int))) := (((hb67.mono (by omega)).grown hgr8 (by omega) (fun k hk => (hvne k hk).2.2.2.2)).setCell HBA.out.2.2.1 _).setCell HBA.out.2.2.1 _
      have hK7 : w7.heap[D]? = some (.deferred (some [])) := (Below.others hb67).same D _ ((Off.others HPW.out HO5.out).same D _ HK.out rfl) rfl
      have hK8 : w8.heap[D]? = some (.deferred (some [])) := (hgr8.block D (Array.getElem?_eq_some_iff.1 hK7).1 (fun e => by have := (hvne D e.symm).2.2.2.1; have := HS4.out; omega)).trans hK7
      have hK10 : ((w8.setCell ⟨j, 2, none⟩ v').setCell ⟨j, 3, none⟩ (.int .i64 ((J.used + need b : Nat) : Int))).heap[D]? = some (.deferred (some [])) := (KeepsOthers.setCell _ _ _).same D _ ((KeepsOthers.setCell _ _ _).same D _ hK8 rfl) rfl
      have hty : ∃ cur : Array Value, Blk w8 gg 44 cur := by
        rcases hown8.2 with ⟨e, _⟩ | ⟨g', cp, cur, e, _, hh, _⟩
        · rw [e] at hvo; cases hvo
        · rw [e] at hvo
          injection hvo with hvo
          subst hvo
          exact ⟨cur, hh⟩
      generalize (w8.setCell ⟨j, 2, none⟩ v').setCell ⟨j, 3, none⟩ (.int .i64 ((J.used + need b : Nat) : Int)) = w10 at *
      have hf5 : FrX (j :: v.ownBlock.toList) w5 w10 := (FrX.of_below hb67 _).trans hf10
      have hnin : ∀ k, k ≠ j → (∀ k', v.ownBlock = some k' → k ≠ k') → k ∉ j :: v.ownBlock.toList := fun k h1 h2 => by
        simp only [List.mem_cons, Option.mem_toList, not_or]
        exact ⟨h1, fun e => h2 k e rfl⟩
      have hp10 : PadAt w10 g h (inkP p J.used (pagesV J.used b)).stroke.dry := HP5.out.keep (fun t cs hb => hf5 g t cs (hnin g (by have := HJN.out; simp at this; omega) (fun k hk => (hvne k hk).1.symm)) hb) (fun t cs hb => hf5 h t cs (hnin h (by have := HJN.out; simp at this; omega) (fun k hk => (hvne k hk).2.1.symm)) hb)
      have hb110 : Blk w10 (w.heap.size + 1) 29 #[.int .i64 0] := hf5 _ _ _ (hnin _ (by omega) (fun k hk => by have := (hvne k hk).2.2.2.1; omega)) hb1
      have f1 := hb110.frozen 0
      have c1 : w10.cell? ⟨w.heap.size + 1, 0, none⟩ = some (.int .i64 0) := by rw [hb110.cell]; rfl
      have X1 := Lib.hid hp10
      have X2 := Lib.hid hb110
      have X3 := Lib.hid hj9
      have X4 := Lib.hid hf5
      have X5 := Lib.hid hf10
      have X6 := Lib.hid hbw8
      have X7 := Lib.hid hK10
      have X8 := Lib.hid hown8
      have X9 := Lib.hid hob7
      have X10 := Lib.hid hfr5
      have X11 := Lib.hid hbs
      have X12 := Lib.hid hvne
      have X13 := Lib.hid hnin
      have X14 := Lib.hid hf18
      have X15 := Lib.hid hat8
      have X16 := Lib.hid hvo
      have X17 := Lib.hid hvl
      have X18 := Lib.hid hty
      clear hp10 hb110 hj9 hf5 hf10 hbw8 hK10 hown8 hob7 hfr5 hbs hvne hnin hf18 hat8 hvo hvl hty hK7 hK8 hvin hj8 cj3 fj3 cj2 fj2 hbj8 hcell8 hvn hC0b hC1b h00 h10 hC0 hC1 hown7 hown5 hb67 hcell7 hcell6 hal hnb7 hob hb6 hnu hvb hown hgr8 hlt8 hv' hbj hb0 hb3 hb1 hi hz0 hz1 hz2
      go_wp2_with fail
      have hf11 := (FrX.refl [w.heap.size + 1] w10).setCell (p := ⟨w.heap.size + 1, 0, none⟩) (by simp) (.int .i64 0)
      have hK5 := (KeepsOthers.setCell w10 ⟨w.heap.size + 1, 0, none⟩ (.int .i64 0)).same D _ X7.out rfl
      have hgr := grownBy_putObj' (w10.setCell ⟨w.heap.size + 1, 0, none⟩ (.int .i64 0)) D (.deferred none)
      have hrr : ∀ r, some D = some r → ∃ o : Obj, (w10.setCell ⟨w.heap.size + 1, 0, none⟩ (.int .i64 0)).heap[r]? = some o ∧ o.isCells = false := fun r e => by cases e; exact ⟨_, hK5, rfl⟩
      have hc5 := cell_kept (show (w10.setCell ⟨w.heap.size + 1, 0, none⟩ (.int .i64 0)).cell? ⟨w.heap.size + 1, 0, none⟩ = some (.int .i64 0) by rw [(X2.out.set_ 0 (.int .i64 0)).cell]; rfl) hgr hrr
      have hbD := belowK_b (n₀ := base) (w := w) (by have := HBA.out; omega) (w10.setCell ⟨w.heap.size + 1, 0, none⟩ (.int .i64 0)) D (.deferred (some [])) (.deferred none) (by have := HS4.out; omega) hK5 rfl rfl
      have hfF := hf11.turn hgr hrr
      refine ⟨by simp, .inl ⟨_, _, rfl, run_takeDeferred hK5, ?_⟩⟩
      generalize hWF : (w10.setCell ⟨w.heap.size + 1, 0, none⟩ (.int .i64 0)).putObj D (.deferred none) = WF at *
      have hSafe : Safe v.ownBlock w WF := by
        intro k t cs n1 n2 n3 n4 hb
        have hk := hb.lt
        have e1 : k ≠ g := fun e => by subst e; exact n1 ((hb.below HBW4.out hb.lt).ty HP4.out.head)
        have e2 : k ≠ h := fun e => by subst e; exact n2 ((hb.below HBW4.out hb.lt).ty HP4.out.row)
        have e3 : k ≠ j := fun e => by subst e; exact n3 ((hb.below HBW4.out hb.lt).ty HA4.out.head)
        refine hfF k t cs (by simp; omega) (X4.out k t cs (X13.out k e3 (fun k' hk' e => n4 (by rw [hk', e]))) (X10.out k t cs (by simp; omega) hb))
      have hgg : gg ≠ j ∧ gg ≠ w.heap.size + 1 := by
        rcases X15.out with h | h
        · have := X12.out gg h
          omega
        · omega
      refine ⟨.int .i64 0, ?_, .inl ⟨rfl, by have := HSN.out; have := H0.out; omega, v', X1.out.keep (fun t cs hb => hfF g t cs (by have := HLT.out; simp; omega) hb) (fun t cs hb => hfF h t cs (by have := HLT.out; simp; omega) hb), ⟨?_, ⟨vs ++ [.slice A6 b.length c6], ?_, by simp [X17.out], ?_⟩, HA4.out.falls, ?_, ?_⟩, ?_, ?_, hSafe⟩⟩
      · simp [results, Try.f37, go_sem, hc5]
      · have := hfF j 87 _ (by simp; omega) X3.out
        exact this
      · have := own_frx (own_frx X8.out X14.out (fun k hk => by
          rw [X16.out] at hk
          injection hk with hk
          subst hk
          simp; exact hgg.1)) hfF (fun k hk => by
          rw [X16.out] at hk
          injection hk with hk
          subst hk
          simp; exact hgg.2)
        simpa using this
      · intro i hi
        by_cases h : i < J.l.length
        · have h' : i < vs.length := by rw [X17.out]; exact h
          have e1 : (vs ++ [Value.slice A6 b.length c6]).getD i undef = vs.getD i undef := by simp [List.getD, List.getElem?_append_left h']
          have e2 : (J.l ++ [b]).getD i [] = J.l.getD i [] := by simp [List.getD, List.getElem?_append_left h]
          show OwnB WF base ((vs ++ [Value.slice A6 b.length c6]).getD i undef) ((J.l ++ [b]).getD i [])
          rw [e1, e2]
          exact (X11.out i h).safe hSafe (fun k e cs => HA0.out.recs.noB k e cs)
        · have hi' : i = J.l.length := by
            have : i < (J.l ++ [b]).length := hi
            rw [List.length_append, List.length_singleton] at this
            omega
          subst hi'
          have e1 : (vs ++ [Value.slice A6 b.length c6]).getD J.l.length undef = .slice A6 b.length c6 := by simp [List.getD, ← X17.out]
          have e2 : (J.l ++ [b]).getD J.l.length [] = b := by simp [List.getD]
          show OwnB WF base ((vs ++ [Value.slice A6 b.length c6]).getD J.l.length undef) ((J.l ++ [b]).getD J.l.length [])
          rw [e1, e2]
          have hbl : ∀ k, (Value.slice A6 b.length c6).ownBlock = some k → w5.heap.size ≤ k := fun k hk => (World.ownsRow.lt X9.out k hk).1
          exact own_base (own_frx (own_frx X9.out X5.out (fun k hk => X13.out k (by have := hbl k hk; omega) (fun k' hk' => by have := hbl k hk; have := X12.out k' hk'; omega))) hfF (fun k hk => by have := hbl k hk; simp; omega)) (by have := HBA.out; omega)
      · have := HFIT.out; show J.used + need b ≤ 20000; omega
      · have h1 := HA0.out.many
        have h2 := HND.out
        show (J.l ++ [b]).length ≤ J.used + need b
        rw [List.length_append, List.length_singleton]
        omega
      · rw [X16.out]
        rcases X15.out with h | h
        · exact .inl h.symm
        · exact .inr ⟨gg, rfl, by omega⟩
      · have h1 : Below base w w5 := ((HBW4.out.mono (by have := HBA.out; omega)).trans HBE.out).trans (HO5.out.below (by have := HBA.out; omega) (by have := HBA.out; omega) (by have := HBE.out.size; have := HS4.out; have := HBA.out; omega))
        exact ((h1.trans X6.out).setCell (Nat.le_trans HBA.out.2.2.2 (Nat.le_add_right _ _)) _).trans hbD
end Go.Proofs.Ytdjkkpefljapcaa
