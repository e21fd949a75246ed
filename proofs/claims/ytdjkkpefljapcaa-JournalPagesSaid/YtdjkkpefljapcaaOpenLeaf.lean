/- An array of 48 bytes that came in, opened to its bytes. -/
import Derived.Test.YtdjkkpefljapcaaProg
import Derived.Test.YtdjkkpefljapcaaWide
import Derived.OpenShut
import Derived.ProofKit
namespace Go.Proofs.Ytdjkkpefljapcaa
open Go.ChangeShapes Go.WideShapes Go.RowKit

theorem openLeaf {H : Type} {enc : TypeId × Value → H} {W : World} {b0 : Nat} {v : Value} {d : DataW H} {p : List MemPlace} (hv : Value.okWide Try.prog W .any b0 26 v) (h : DataW.Trod enc Try.prog W 0 (fun _ => true) true 26 v d p) :
    ∃ b : List Int, v = .agg (bArr b) ∧ b.length = 48 ∧ isBytes b := by
  simp only [Value.okWide, Try.underlying26] at hv
  obtain ⟨cs, rfl, hsz, _⟩ := hv
  have hc48 : Try.prog.cellsOf 26 = 48 := by kernel_rfl
  have hc1 : Try.prog.cellsOf 5 = 1 := by kernel_rfl
  rw [hc48] at hsz
  obtain ⟨fuel, hf⟩ := h
  obtain ⟨xs, m, _, _, _, hxl, hi⟩ := DataW.trod_array Try.underlying26 hf
  rw [hc1] at hi
  have hat : ∀ i, i < 48 → ∃ n : Int, cs[i]? = some (.int .u8 n) ∧ (Lit.int .u8 n).wf = true := by
    intro i h48
    have h1 := hi i h48
    have h2 : xs[i]? = some (xs[i]'(by omega)) := List.getElem?_eq_getElem (by omega)
    rw [h2] at h1
    obtain ⟨n, e, _, hw⟩ := DataW.trod_int Try.underlying5 h1
    refine ⟨n, ?_, hw⟩
    have h3 : ((Value.cells (.agg cs)).toList.drop (i * 1)).take 1 = [cs[i]'(by omega)] := by
      simp only [Value.cells, Nat.mul_one]
      rw [List.drop_eq_getElem_cons (by simpa using (by omega : i < cs.size))]
      simp
    rw [h3] at e
    injection e with e _
    rw [Array.getElem?_eq_getElem (by omega), e]
  refine ⟨cs.toList.map (fun v => match v with | .int _ n => n | _ => 0), ?_, by simp [hsz], ?_⟩
  · have : cs = bArr (cs.toList.map (fun v => match v with | .int _ n => n | _ => 0)) := by
      unfold bArr
      apply Array.ext_getElem?
      intro i
      by_cases h48 : i < 48
      · obtain ⟨n, e, _⟩ := hat i h48
        rw [e]
        simp [e]
      · rw [Array.getElem?_eq_none (by omega), Array.getElem?_eq_none (by simp; omega)]
    rw [← this]
  · intro b hb
    obtain ⟨v, hv, rfl⟩ := List.mem_map.1 hb
    obtain ⟨i, hi', e⟩ := List.mem_iff_getElem.1 hv
    obtain ⟨n, e2, hw⟩ := hat i (by simpa [hsz] using hi')
    have e3 : cs.toList[i]? = some (.int .u8 n) := by simpa using e2
    rw [List.getElem?_eq_getElem hi', e] at e3
    injection e3 with e3
    subst e3
    have := bounds_u8 hw
    dsimp only
    omega
end Go.Proofs.Ytdjkkpefljapcaa
