/- The leaves of a record in plain Lean: how a record is cut, what is inked, where it stands. -/
import Derived.Test.YtdjkkpefljapcaaJn
import Derived.Test.YtdjkkpefljapcaaChunk
namespace Go.Proofs.Ytdjkkpefljapcaa
open Go.RowKit
set_option linter.unusedVariables false
set_option linter.unusedSimpArgs false

def need (b : List Int) : Nat := (b.length + 40) / 41
def chunkB (b : List Int) (x : Nat) : List Int := (b.drop (41 * clip b.length x)).take 41
/-- What Page hands back for 1 to 41 bytes. -/
def pageT (n : Int) (first last : Bool) (b : List Int) : List Int := if last = true ∨ b.length = 41 then pageV n first last b else zb
def pgOf (b : List Int) (used last i x : Nat) : List Int := pageT ((used + i : Nat) : Int) (decide (i = 0)) (decide (used + i = last)) (chunkB b x)
def pgs (b : List Int) (used last : Nat) (pre : List Nat) : List (List Int) := pre.mapIdx (fun i x => pgOf b used last i x)
theorem pgs_nil (b : List Int) (used last : Nat) : pgs b used last [] = [] := rfl
theorem pgs_snoc (b : List Int) (used last : Nat) (pre : List Nat) (x : Nat) : pgs b used last (pre ++ [x]) = pgs b used last pre ++ [pgOf b used last pre.length x] := by
  unfold pgs
  rw [List.mapIdx_concat]
theorem pgs_len (b : List Int) (used last : Nat) (pre : List Nat) : (pgs b used last pre).length = pre.length := by simp [pgs]

theorem clip_lt {len : Nat} (h : 1 ≤ len) (x : Nat) : 41 * clip len x < len := by unfold clip; split <;> omega
theorem chunkB_len {b : List Int} (x : Nat) : (chunkB b x).length = min 41 (b.length - 41 * clip b.length x) := by simp [chunkB]
theorem chunkB_le {b : List Int} (x : Nat) : (chunkB b x).length ≤ 41 := by rw [chunkB_len]; omega
theorem chunkB_pos {b : List Int} (h : 1 ≤ b.length) (x : Nat) : 1 ≤ (chunkB b x).length := by
  have := clip_lt h x
  rw [chunkB_len]
  omega
theorem chunkB_bytes {b : List Int} (h : isBytes b) (x : Nat) : isBytes (chunkB b x) := fun y hy => h y (List.mem_of_mem_drop (List.mem_of_mem_take hy))
theorem pageT_len {n : Int} {first last : Bool} {b : List Int} (h : b.length ≤ 41) : (pageT n first last b).length = 48 := by
  unfold pageT
  split
  · exact pageV_len h
  · exact zb_len
theorem pageT_bytes {n : Int} {first last : Bool} {b : List Int} (h : b.length ≤ 41) (hb : isBytes b) : isBytes (pageT n first last b) := by
  unfold pageT
  split
  · exact pageV_bytes h hb
  · exact zb_bytes
theorem pgOf_len (b : List Int) (used last i x : Nat) : (pgOf b used last i x).length = 48 := pageT_len (chunkB_le x)
theorem pgOf_bytes {b : List Int} (hb : isBytes b) (used last i x : Nat) : isBytes (pgOf b used last i x) := pageT_bytes (chunkB_le x) (chunkB_bytes hb x)

/-! ### the pad while a record is inked -/
def layL (l : List Lf) (n : Nat) (ps : List (List Int)) : List Lf := l.take n ++ ps.map (Lf.mk 1) ++ l.drop (n + ps.length)
theorem layL_nil (l : List Lf) (n : Nat) : layL l n [] = l := by simp [layL]
theorem layL_length {l : List Lf} {n : Nat} {ps : List (List Int)} (h : n + ps.length ≤ l.length) : (layL l n ps).length = l.length := by simp [layL]; omega
theorem layL_snoc {l : List Lf} {n : Nat} {ps : List (List Int)} {x : List Int} (h : n + ps.length < l.length) : (layL l n ps).set (n + ps.length) ⟨1, x⟩ = layL l n (ps ++ [x]) := by
  unfold layL
  have hl : (l.take n ++ ps.map (Lf.mk 1)).length = n + ps.length := by simp; omega
  rw [List.set_append_right _ _ (by omega), hl, Nat.sub_self, List.drop_eq_getElem_cons h, List.set_cons_zero]
  simp [Nat.add_assoc]
theorem layL_at {l : List Lf} {n m : Nat} {ps : List (List Int)} (h : n + ps.length ≤ l.length) (hm : n + ps.length ≤ m) : (layL l n ps).getD m Lf.zero = l.getD m Lf.zero := by
  unfold layL
  have hl : (l.take n ++ ps.map (Lf.mk 1)).length = n + ps.length := by simp; omega
  simp only [List.getD]
  rw [List.getElem?_append_right (by omega), hl, List.getElem?_drop, show n + ps.length + (m - (n + ps.length)) = m from by omega]
def inkP (p : Pd) (n : Nat) (ps : List (List Int)) : Pd := { p with l := layL p.l n ps, snag := if p.snag = 0 then 0 else p.snag - ps.length }
/-- .. and down at the stroke that does not come to pass. -/
def hitP (p : Pd) (n : Nat) (ps : List (List Int)) : Pd := { p with l := layL p.l n ps, snag := 0, falls := p.falls + 1, down := true }
theorem inkP_nil (p : Pd) (n : Nat) : inkP p n [] = p := by
  unfold inkP
  rw [layL_nil]
  cases p
  simp
  exact fun h => h.symm
theorem inkP_next {p : Pd} {n : Nat} {ps : List (List Int)} {x : List Int} (h : n + ps.length < p.l.length) (hs : p.snag = 0 ∨ ((ps.length : Nat) : Int) + 1 < p.snag) : ((inkP p n ps).put (n + ps.length) ⟨1, x⟩).stroke = inkP p n (ps ++ [x]) := by
  unfold inkP Pd.put Pd.stroke
  simp only [layL_snoc h, List.length_append, List.length_singleton]
  rcases hs with hs | hs
  · simp [hs]
  · rw [if_neg (show ¬ p.snag = 0 from by omega), if_neg (show ¬ p.snag = 0 from by omega), if_neg (by omega), if_neg (by omega)]
    congr 1
    omega
theorem inkP_hit {p : Pd} {n : Nat} {ps : List (List Int)} {x : List Int} (h : n + ps.length < p.l.length) (hs : p.snag = ((ps.length : Nat) : Int) + 1) : ((inkP p n ps).put (n + ps.length) ⟨1, x⟩).stroke = hitP p n (ps ++ [x]) := by
  unfold inkP Pd.put Pd.stroke hitP
  simp only [layL_snoc h]
  rw [if_neg (show ¬ p.snag = 0 from by omega), if_neg (by omega), if_pos (by omega)]
theorem inkP_end {p : Pd} {n : Nat} {ps : List (List Int)} (hs : p.snag = ((ps.length : Nat) : Int) + 1) : (inkP p n ps).stroke = hitP p n ps := by
  unfold inkP Pd.stroke hitP
  simp only
  rw [if_neg (show ¬ p.snag = 0 from by omega), if_neg (by omega), if_pos (by omega)]

/-- Page, 1 to 41 bytes. -/
theorem page_any (n : Int) (first last : Bool) (ad : Addr) (m cap B : Nat) (b : List Int) (w : World) (h0 : 0 ≤ n) (h1 : n ≤ 20000) (hm : Nums .u8 w B (some ad) m b) (hB : B ≤ w.heap.size) (hb : isBytes b) (m1 : 1 ≤ m) (m2 : m ≤ 41) :
    Calls Try.prog 30 #[.int .i64 n, .bool first, .bool last, .slice (some ad) m cap] w fun e w' => ∃ er : Int, e = .returned (.tuple #[.agg (bArr (pageT n first last b)), .int .i64 er]) ∧ Below w.heap.size w w' := by
  have hl := hm.len
  by_cases h : last = true ∨ m = 41
  · refine (page_ok n first last ad m cap B b w h0 h1 hm hB hb m1 m2 h).mono ?_
    rintro e w' ⟨rfl, hw⟩
    refine ⟨0, ?_, hw⟩
    unfold pageT
    rw [if_pos (by rw [hl]; exact h)]
  · refine (page_bad n first last (some ad) m cap w (.inr (.inr (.inr (.inr ⟨h0, h1, m1, by omega, by simpa using fun e => h (.inl e)⟩))))).mono ?_
    rintro e w' ⟨rfl, hw⟩
    refine ⟨1, ?_, hw⟩
    unfold pageT
    rw [if_neg (by rw [hl]; exact h)]

/-- A chunk's bytes. -/
theorem chunk_nums {w : World} {B len : Nat} {ad : Addr} {b : List Int} (h : Nums .u8 w B (some ad) len b) (x : Nat) (h1 : 1 ≤ len) :
    Nums .u8 w B (some (ad.add (41 * clip len x))) (min 41 (len - 41 * clip len x)) (chunkB b x) := by
  have hl := h.len
  have hc := clip_lt h1 x
  have h2 := Nums.cut (i := 41 * clip len x) (cap := len + 1) h (by omega) (by omega)
  rw [if_neg (by omega)] at h2
  have h3 := h2.take (i := min 41 (len - 41 * clip len x)) (by omega)
  have e : (b.drop (41 * clip len x)).take (min 41 (len - 41 * clip len x)) = chunkB b x := by
    unfold chunkB
    rw [hl]
    by_cases h41 : 41 ≤ len - 41 * clip len x
    · rw [show min 41 (len - 41 * clip len x) = 41 from by omega]
    · rw [List.take_of_length_le (by simp; omega), List.take_of_length_le (by simp; omega)]
  rw [e] at h3
  exact h3
end Go.Proofs.Ytdjkkpefljapcaa
