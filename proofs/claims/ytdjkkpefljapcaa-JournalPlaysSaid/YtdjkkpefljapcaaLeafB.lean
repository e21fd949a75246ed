/- The contracts of leaf.kept, and of the closures that Pad.each is given. -/
import Derived.Test.YtdjkkpefljapcaaWide
namespace Go.Proofs.Ytdjkkpefljapcaa
open Go.RowKit
set_option linter.unusedVariables false
set_option linter.unusedSimpArgs false

/-- The steps at whole leaves and arrays that ask for nothing. -/
theorem ret_agg {fn : Func} {p : Tmp} {ty : TypeId} (h : fn.results = #[.cell p ty]) (tmps : Array Value) (w : World) (g : Nat) (t : TypeId) (C : Array Value) (d : TypeDesc) (hp : tmps.getD p undef = .pointer (some ⟨g, 0, none⟩)) (hg : Blk w g t C)
    (hu : Try.prog.underlying ty = some d) (hd : d.isRow = true) (n : Nat) (hi : (Try.prog.info? ty).map (·.size) = some n) (hn : C.size = n) :
    (results fn tmps).run Try.prog w = .ok (.agg C) w := results_cell_row h tmps w g t C (0, 0) d hp hg hu (by cases d <;> simp_all) (by rw [hi, hn])

theorem Blk.new1 (w : World) (ob : Obj) (t : TypeId) (cs : Array Value) : Blk ((w.alloc ob).alloc (.cells cs t)) (w.heap.size + 1) t cs := by
  have := Blk.new (w.alloc ob) t cs
  simpa using this
theorem Blk.all {w : World} {g : Nat} {t : TypeId} {C : Array Value} (h : Blk w g t C) : w.rangeAt g 0 C.toList := h.range 0 _ (fun j v hj => by simpa using hj)
theorem Blk.allThere {w : World} {g : Nat} {t : TypeId} {C : Array Value} (h : Blk w g t C) {n : Nat} (hn : C.size = n) : w.there g 0 n := h.there 0 n (by omega)
theorem Blk.overwrite {w : World} {g : Nat} {t : TypeId} {C D : Array Value} (h : Blk w g t C) (hs : D.size = C.size) : Blk (w.setCells g 0 D.toList) g t D := by
  have := h.setCells 0 D.toList (by simp [hs])
  rw [List.drop_of_length_le (by simp [hs])] at this
  simpa using this

set_option maxRecDepth 100000 in
theorem kept_none (x : Lf) (n : Int) (hx : x.ok) (hn : n < 1) (w : World) : Calls Try.prog 51 #[.agg (lArr x), .int .i64 n] w fun e w' => e = .returned (.agg (lArr (keptL x n))) ∧ Below w.heap.size w w' := by
  go_enter Try.func51, Try.ntmps51
  go_wp2_with (first
    | (with_reducible refine step_alloc 76 zLeaf Try.zero76 rfl rfl ?_)
    | (refine step_build 76 #[] zLeaf rfl rfl Try.built76z ?_)
    | (refine step_store 76 _ _ (w.heap.size + 1) 0 zLeaf rfl rfl rfl rfl 49 (Blk.allThere (Blk.new1 _ _ _ _) zLeaf_size) Try.size76 zLeaf_size zLeaf_one ?_))
  have K := ((Blk.new1 w (.cells (lArr x) 76) 76 zLeaf).overwrite (D := zLeaf) rfl)
  refine bodyPost_ret (v := .agg zLeaf) (ret_agg rfl _ _ _ _ _ _ rfl K Try.underlying76 rfl 49 Try.size76 zLeaf_size) rfl ⟨?_, ?_⟩
  · unfold keptL
    rw [if_pos hn]
    rfl
  · exact (((Below.refl _ _).alloc (Nat.le_refl _) _).alloc (by simp) _).trans ((Off.refl w.heap.size (w.heap.size + 1) _).setCells (.inr (.inl rfl)) _ _ |>.below (Nat.le_refl _) (by omega) (by simp; omega))

def partL (b : List Int) (m k : Nat) : List Int := b.take m ++ List.replicate (k - m) 255 ++ b.drop k
theorem partL_start (b : List Int) (m : Nat) : partL b m m = b := by simp [partL]
theorem partL_length {b : List Int} {m k : Nat} (h : b.length = 48) (h1 : m ≤ k) (h2 : k ≤ 48 ∨ k = m) : (partL b m k).length = 48 := by simp [partL, h]; omega
theorem partL_set {b : List Int} {m k : Nat} (h : b.length = 48) (h1 : m ≤ k) (h2 : k < 48) : (partL b m k).set k 255 = partL b m (k + 1) := by
  have e : (b.take m ++ List.replicate (k - m) 255).length = k := by simp [h]; omega
  unfold partL
  rw [List.set_append_right _ _ (by omega), e, Nat.sub_self, List.drop_eq_getElem_cons (by omega), List.set_cons_zero, show k + 1 - m = (k - m) + 1 from by omega, List.replicate_succ']
  simp
theorem partL_all {b : List Int} {m k : Nat} (h : b.length = 48) (h1 : m ≤ k) (h2 : 48 ≤ k) (h3 : k ≤ 48 ∨ k = m) : partL b m k = b.take m ++ List.replicate (48 - m) 255 := by
  unfold partL
  rw [List.drop_of_length_le (by omega)]
  rcases h3 with h3 | h3
  · rw [show k = 48 from by omega]; simp
  · rw [show k - m = 0 from by omega, show 48 - m = 0 from by omega]; simp
theorem lArr_set (x : Lf) (i : Nat) (v : Int) : (lArr x).setIfInBounds (1 + i) (.int .u8 v) = lArr ⟨x.is, x.b.set i v⟩ := by
  unfold lArr
  rw [List.setIfInBounds_toArray, Nat.add_comm]
  simp [Lf.cells, List.map_set]
theorem lArr_is (x : Lf) (v : Int) : (lArr x).setIfInBounds 0 (.int .i64 v) = lArr ⟨v, x.b⟩ := by
  unfold lArr
  rw [List.setIfInBounds_toArray]
  simp [Lf.cells]
theorem lArr_get (x : Lf) (i : Nat) (hi : i < x.b.length) : (lArr x)[1 + i]? = some (.int .u8 (x.b.getD i 0)) := by
  unfold lArr
  rw [List.getElem?_toArray, Nat.add_comm]
  simp [Lf.cells, List.getD, List.getElem?_eq_getElem hi]

set_option maxRecDepth 100000 in
theorem kept_some (x : Lf) (n : Nat) (hx : x.ok) (hn : 1 ≤ n) (hn2 : n ≤ 9223372036854775807) (w : World) : Calls Try.prog 51 #[.agg (lArr x), .int .i64 n] w fun e w' => e = .returned (.agg (lArr (keptL x n))) ∧ Below w.heap.size w w' := by
  have k0 : Blk ((w.alloc (.cells (lArr x) 76)).alloc (.cells zLeaf 76)) w.heap.size 76 (lArr x) := (Blk.new w 76 (lArr x)).alloc _
  have k1 : Blk ((w.alloc (.cells (lArr x) 76)).alloc (.cells zLeaf 76)) (w.heap.size + 1) 76 zLeaf := Blk.new1 w _ 76 zLeaf
  have c0 : ((w.alloc (.cells (lArr x) 76)).alloc (.cells zLeaf 76)).cell? ⟨w.heap.size, 0, none⟩ = some (.int .i64 x.is) := by rw [k0.cell]; rfl
  have f0 := k0.frozen 0
  have K0 := Lib.hid k0
  have K1 := Lib.hid k1
  clear k0 k1
  have hxl := hx.1
  go_enter Try.func51, Try.ntmps51
  go_wp2_with (first
    | (with_reducible refine step_alloc 76 zLeaf Try.zero76 rfl rfl ?_))
  have b0 : Blk ((w.alloc (.cells ((lArr x).setIfInBounds 0 (.int .i64 2)) 76)).alloc (.cells zLeaf 76)) w.heap.size 76 (lArr ⟨2, partL x.b n n⟩) := by
    rw [partL_start, ← lArr_is]
    exact (Blk.new w 76 _).alloc _
  have b1 : Blk ((w.alloc (.cells ((lArr x).setIfInBounds 0 (.int .i64 2)) 76)).alloc (.cells zLeaf 76)) (w.heap.size + 1) 76 zLeaf := Blk.new1 _ _ _ _
  have b2 : Below w.heap.size w ((w.alloc (.cells ((lArr x).setIfInBounds 0 (.int .i64 2)) 76)).alloc (.cells zLeaf 76)) := ((Below.refl _ _).alloc (Nat.le_refl _) _).alloc (by simp) _
  clear K0 K1 c0 f0
  go_loopw [5] (fun i wr => ∃ k : Nat, n ≤ k ∧ (k ≤ 48 ∨ k = n) ∧ i = .int .i64 k ∧ Blk wr w.heap.size 76 (lArr ⟨2, partL x.b n k⟩) ∧ Blk wr (w.heap.size + 1) 76 zLeaf ∧ Below w.heap.size w wr) (fun i _ => 48 - (intOf i).toNat)
  case atStart => exact ⟨n, Nat.le_refl _, .inr rfl, rfl, b0, b1, b2⟩
  case round =>
    obtain ⟨k, hk1, hk2, rfl, r0, r1, r2⟩ := hrel
    clear b0 b1 b2
    have R0 := Lib.hid r0
    have R1 := Lib.hid r1
    have hpl := partL_length hxl hk1 hk2
    have HXL := Lib.hid hxl
    clear hxl
    by_cases hlt : k < 48
    · have c0 : wr.cell? ⟨w.heap.size, 1 + k, none⟩ = some (.int .u8 ((partL x.b n k).getD k 0)) := by rw [r0.cell, lArr_get _ _ (by show k < (partL x.b n k).length; omega)]
      have f0 := r0.frozen (1 + k)
      clear r0 r1 hpl
      go_wp2
      go_roundw
      case rel =>
        refine ⟨k + 1, by omega, by omega, by go_num, ?_, R1.out.far (by simp) _, r2.setCell (by simp) _⟩
        have := R0.out.set_ (1 + k) (.int .u8 255)
        rwa [lArr_set, partL_set HXL.out hk1 hlt] at this
      case measure => simp [intOf]; omega
    · clear hpl
      have hok : (Lf.mk 2 (partL x.b n k)).ok := by
        have e : (⟨2, partL x.b n k⟩ : Lf) = keptL x n := by
          unfold keptL
          rw [if_neg (by omega), partL_all HXL.out hk1 (by omega) hk2]
          rfl
        rw [e]
        exact keptL_ok hx n
      have hs := lArr_size hok
      have HS := Lib.hid hs
      have HOK := Lib.hid hok
      clear hs hok r0 r1
      go_wp2_with (first
        | (refine step_load 76 _ w.heap.size 0 (lArr ⟨2, partL x.b n k⟩) rfl rfl rfl R0.out.all _ Try.underlying76 rfl 49 Try.size76 HS.out ?_)
        | (refine step_store 76 _ _ (w.heap.size + 1) 0 (lArr ⟨2, partL x.b n k⟩) rfl rfl rfl rfl 49 (R1.out.allThere zLeaf_size) Try.size76 HS.out (lArr_one _) ?_))
      refine bodyPost_ret (v := .agg (lArr ⟨2, partL x.b n k⟩)) (ret_agg rfl _ _ (w.heap.size + 1) 76 (lArr ⟨2, partL x.b n k⟩) _ rfl (R1.out.overwrite (by rw [HS.out]; rfl)) Try.underlying76 rfl 49 Try.size76 HS.out) rfl ⟨?_, ?_⟩
      · unfold keptL
        rw [if_neg (by omega), partL_all HXL.out hk1 (by omega) hk2]
        rfl
      · exact r2.trans ((Off.refl w.heap.size (w.heap.size + 1) _).setCells (.inr (.inl rfl)) _ _ |>.below (Nat.le_refl _) (by omega) r2.size)

set_option maxRecDepth 100000 in
theorem kept_any (x : Lf) (n : Int) (hx : x.ok) (hn2 : n ≤ 9223372036854775807) (w : World) : Calls Try.prog 51 #[.agg (lArr x), .int .i64 n] w fun e w' => e = .returned (.agg (lArr (keptL x n))) ∧ Below w.heap.size w w' := by
  by_cases h : n < 1
  · exact kept_none x n hx h w
  · obtain ⟨m, rfl⟩ : ∃ m : Nat, n = m := ⟨n.toNat, by omega⟩
    exact kept_some x m hx (by omega) (by omega) w
end Go.Proofs.Ytdjkkpefljapcaa
