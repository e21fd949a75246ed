/- JournalPlays: what holds between two Ops, and what each call does to it. -/
import Derived.Test.YtdjkkpefljapcaaJLeaves
import Derived.Test.YtdjkkpefljapcaaOpenOps
namespace Go.Proofs.Ytdjkkpefljapcaa
open Go.RowKit
set_option linter.unusedVariables false
set_option linter.unusedSimpArgs false

/-- A pad that is up, with these records; or one that fell while b was under way. -/
def Mode (N : Nat) (F : Int) (rs : List (List Int)) (p : Pd) : Option (List Int) → Prop
  | none => ∃ s : Int, 0 ≤ s ∧ s ≤ 6 ∧ p = padOf N F s rs
  | some b => ∃ (s t : Int) (q : Nat), q ≤ need b ∧ usedBy rs + need b ≤ N ∧ p = { hitP (padOf N F s rs) (usedBy rs) ((pagesV (usedBy rs) b).take q) with snag := t }
def fine (b : List Int) : Prop := 1 ≤ b.length ∧ b.length ≤ 150 ∧ isBytes b
structure Pl (w0 w : World) (g h j N : Nat) (F : Int) (rs : List (List Int)) (v : Value) (p : Pd) (late : Option (List Int)) : Prop where
  pad : PadAt w g h p
  jou : JouAt w w0.heap.size g j v ⟨F, rs, usedBy rs⟩
  ge : w0.heap.size ≤ g ∧ w0.heap.size ≤ h ∧ w0.heap.size ≤ j
  below : Below w0.heap.size w0 w
  fit : usedBy rs ≤ N ∧ N ≤ 100
  big : ∀ b ∈ rs, fine b
  mode : Mode N F rs p late
  lateb : ∀ b, late = some b → fine b
section
variable {w0 w w' : World} {g h j N : Nat} {F : Int} {rs : List (List Int)} {v : Value} {p : Pd} {late : Option (List Int)}
theorem Pl.next (a : Pl w0 w g h j N F rs v p late) (hb : Below w.heap.size w w') : Pl w0 w' g h j N F rs v p late := ⟨a.pad.below hb, a.jou.below hb, a.ge, a.below.trans (hb.mono a.below.size), a.fit, a.big, a.mode, a.lateb⟩
theorem Pl.off {p' : Pd} (a : Pl w0 w g h j N F rs v p late) (hp : PadAt w' g h p') (ho : Off g h w w') (hm : Mode N F rs p' late) : Pl w0 w' g h j N F rs v p' late :=
  ⟨hp, a.jou.off a.pad ho, a.ge, a.below.trans (ho.below a.ge.1 a.ge.2.1 a.below.size), a.fit, a.big, hm, a.lateb⟩
theorem Pl.nBytes (a : Pl w0 w g h j N F rs v p late) : ∀ b ∈ rs, isBytes b := fun b hb => (a.big b hb).2.2
theorem Pl.many (a : Pl w0 w g h j N F rs v p late) : rs.length ≤ 100 := by
  have := a.jou.many
  have := a.fit
  simp only at *
  omega
/-- A block of another type stays while the journal's row turns. -/
theorem Pl.blk {k t : Nat} {cs : Array Value} (a : Pl w0 w g h j N F rs v p late) (hs : Safe v.ownBlock w w') (hb : Blk w k t cs) (h1 : t ≠ 73) (h2 : t ≠ 76) (h3 : t ≠ 87) (h4 : t ≠ 44) : Blk w' k t cs := by
  refine hs k t cs h1 h2 h3 (fun e => ?_) hb
  obtain ⟨_, _, cs', hb'⟩ := a.jou.recs.block k e
  exact h4 (hb.ty hb')
theorem Pl.down (a : Pl w0 w g h j N F rs v p late) : p.down = late.isSome := by
  cases late with
  | none => obtain ⟨s, _, _, rfl⟩ := a.mode; rfl
  | some b => obtain ⟨s, t, q, _, _, rfl⟩ := a.mode; rfl
theorem Pl.falls (a : Pl w0 w g h j N F rs v p none) : p.falls = F := by obtain ⟨s, _, _, rfl⟩ := a.mode; rfl
theorem Pl.len (a : Pl w0 w g h j N F rs v p none) : p.l.length = N := by obtain ⟨s, _, _, rfl⟩ := a.mode; exact padOf_len a.fit.1
theorem Pl.len' (a : Pl w0 w g h j N F rs v p late) : p.l.length = N := by
  cases late with
  | none => exact a.len
  | some b =>
    obtain ⟨s, t, q, hq, hfit, rfl⟩ := a.mode
    show (layL (padOf N F s rs).l (usedBy rs) ((pagesV (usedBy rs) b).take q)).length = N
    rw [layL_length (by rw [padOf_len a.fit.1, List.length_take, pagesV_len]; omega), padOf_len a.fit.1]
theorem Pl.records (a : Pl w0 w g h j N F rs v p late) : Calls Try.prog 38 #[.pointer (some ⟨j, 0, none⟩)] w fun e w' => ∃ A c, e = .returned (.slice A rs.length c) ∧ Lst w' w'.heap.size A rs.length rs ∧ Below w.heap.size w w' := by
  refine (records_any a.jou (fun b hb => ⟨(a.big b hb).1, by have := (a.big b hb).2.1; omega⟩)).mono ?_
  rintro e w' ⟨v', rfl, hr, hb⟩
  obtain ⟨A, c, rfl, hl⟩ := hr.lst
  exact ⟨A, c, rfl, hl, hb⟩
/-- Snag. -/
theorem Pl.snag (a : Pl w0 w g h j N F rs v p late) (n : Int) (h0 : 0 ≤ n) (h6 : n ≤ 6) : Calls Try.prog 25 #[.pointer (some ⟨g, 0, none⟩), .int .i64 n] w fun e w' => e = .returned (.tuple #[]) ∧ ∃ p', Pl w0 w' g h j N F rs v p' late ∧ p'.falls = p.falls ∧ Off g h w w' := by
  refine (snag_any n (by omega) a.pad).mono ?_
  rintro e w' ⟨he, hp, ho⟩
  rw [show max n 0 = n from by omega] at hp
  refine ⟨he, _, a.off hp ho ?_, rfl, ho⟩
  cases late with
  | none => obtain ⟨s, _, _, rfl⟩ := a.mode; exact ⟨n, h0, h6, rfl⟩
  | some b => obtain ⟨s, t, q, h1, h2, rfl⟩ := a.mode; exact ⟨s, n, q, h1, h2, rfl⟩
/-- Add, where there is room. -/
theorem Pl.add (a : Pl w0 w g h j N F rs v p none) (k : Nat) (len cap : Nat) (b : List Int) (t : TypeId) (cs : Array Value) (hm : Nums .u8 w (k + 1) (some ⟨k, 0, none⟩) len b) (hbk : Blk w k 5 cs) (hcap : len ≤ cap) (hcm : cap ≤ maxLen) (hb : isBytes b)
    (h1 : 1 ≤ len) (h2 : len ≤ 150) (hF : p.falls ≤ 100) (hfit : usedBy rs + need b ≤ N) :
    Calls Try.prog 37 #[.pointer (some ⟨j, 0, none⟩), .slice (some ⟨k, 0, none⟩) len cap] w fun e w' =>
      (e = .returned (.int .i64 0) ∧ ∃ v' p', Pl w0 w' g h j N F (rs ++ [b]) v' p' none ∧ p'.falls = p.falls ∧ (∀ k, v'.ownBlock = some k → v.ownBlock = some k ∨ w.heap.size ≤ k) ∧ Safe v.ownBlock w w' ∧ w.heap.size ≤ w'.heap.size) ∨
      (e = .returned (.int .i64 15) ∧ ∃ p', Pl w0 w' g h j N F rs v p' (some b) ∧ p'.falls = p.falls + 1 ∧ Safe none w w' ∧ w.heap.size ≤ w'.heap.size) := by
  have hl := hm.len
  have hfb : fine b := ⟨by omega, by omega, hb⟩
  obtain ⟨s, hs0, hs6, rfl⟩ := a.mode
  have hF' : F ≤ 100 := hF
  have hne : k ≠ g ∧ k ≠ h := ⟨fun e => by subst e; exact absurd (hbk.ty a.pad.head) (by decide), fun e => by subst e; exact absurd (hbk.ty a.pad.row) (by decide)⟩
  have hc := add_any ⟨k, 0, none⟩ len cap (k + 1) b a.jou a.pad hm (.inl ⟨_, _, hbk⟩) hne hcap hcm hb h1 (by omega) rfl rfl (by show F < 1000000000; omega) (by rw [padOf_len a.fit.1]; exact hfit) (fun n hn _ => padOf_at hn) ⟨a.ge.1, a.ge.2.1, a.ge.2.2, a.below.size⟩
  refine hc.mono ?_
  rintro e w' (⟨rfl, hs, v', hp, hj, hv, hbl, hsf⟩ | ⟨rfl, s1, s2, hp, hj, hbl, hsf⟩)
  · left
    refine ⟨rfl, v', padOf N F (if s = 0 then 0 else s - need b - 1) (rs ++ [b]), ⟨?_, ?_, a.ge, a.below.trans hbl, ?_, ?_, ?_, fun _ e => by cases e⟩, rfl, ?_, hsf, ?_⟩
    · have := padOf_add (F := F) (s := s) hfit hs
      rw [← this]
      exact hp
    · rw [usedBy_snoc]; exact hj
    · rw [usedBy_snoc]; exact ⟨hfit, a.fit.2⟩
    · intro x hx
      rcases List.mem_append.1 hx with hx | hx
      · exact a.big x hx
      · rw [List.mem_singleton] at hx; subst hx; exact hfb
    · refine ⟨_, ?_, ?_, rfl⟩
      · have hs' : s = 0 ∨ ((need b : Nat) : Int) + 1 < s := hs
        split <;> omega
      · split <;> omega
    · intro k' hk'
      rcases hv with hv | ⟨k2, hv, hk2⟩
      · left; rw [← hv]; exact hk'
      · right
        rw [hv] at hk'
        injection hk' with hk'
        omega
    · exact hbl.size
  · right
    have s1' : 1 ≤ s := s1
    have s2' : s ≤ ((need b : Nat) : Int) + 1 := s2
    refine ⟨rfl, _, ⟨hp, hj, a.ge, a.below.trans hbl, a.fit, a.big, ⟨s, 0, min s.toNat (need b), by omega, hfit, ?_⟩, fun x e => by injection e with e; subst e; exact hfb⟩, rfl, hsf, ?_⟩
    · have e : (pagesV (usedBy rs) b).take s.toNat = (pagesV (usedBy rs) b).take (min s.toNat (need b)) := by
        by_cases hq : s.toNat ≤ need b
        · rw [Nat.min_eq_left hq]
        · rw [Nat.min_eq_right (by omega), List.take_of_length_le (by rw [pagesV_len]; omega), List.take_of_length_le (by rw [pagesV_len]; exact Nat.le_refl _)]
      show hitP (padOf N F s rs) (usedBy rs) ((pagesV (usedBy rs) b).take s.toNat) = _
      rw [e]
      rfl
    · exact hbl.size
end

/-- What is there when it is opened anew. -/
def Reop (N : Nat) (rs : List (List Int)) (late : Option (List Int)) (B : Int) (p : Pd) (rs' : List (List Int)) : Prop :=
  p.down = false ∧ p.snag = 0 ∧ p.falls ≤ B ∧ Parse p.dry.l 0 rs' (usedBy rs') ∧ openP p (usedBy rs') = padOf N p.falls 0 rs' ∧ usedBy rs' ≤ N ∧ (rs' = rs ∨ ∃ b, late = some b ∧ rs' = rs ++ [b])
section
variable {w0 w w' : World} {g h j N : Nat} {F : Int} {rs : List (List Int)} {v : Value} {p : Pd} {late : Option (List Int)}
theorem Pl.reop1 (a : Pl w0 w g h j N F rs v p late) (keep : List Int) : ∃ rs', Reop N rs late (p.falls + 1) ({ p.drop keep with snag := 0 } : Pd).mend rs' := by
  have hrs : ∀ b ∈ rs, 1 ≤ b.length := fun b hb => (a.big b hb).1
  have hN := a.fit.2
  cases late with
  | none =>
    obtain ⟨s, _, _, rfl⟩ := a.mode
    rw [up_drop]
    obtain ⟨h1, h2⟩ := reopen_plain (N := N) (F := F + 1) (rs := rs) a.fit.1 (by omega) hrs
    exact ⟨rs, rfl, rfl, Int.le_refl _, h1, h2, a.fit.1, .inl rfl⟩
  | some b =>
    obtain ⟨s, t, q, hq, hfit, rfl⟩ := a.mode
    have hfb := a.lateb b rfl
    have e : ({ ({ hitP (padOf N F s rs) (usedBy rs) ((pagesV (usedBy rs) b).take q) with snag := t } : Pd).drop keep with snag := 0 } : Pd).mend = crashP N (F + 1) rs (tornL keep 0 ((pagesV (usedBy rs) b).take q)) := fall_drop (s := s) hfit hq
    rw [e]
    by_cases hw : allWhole keep q b
    · obtain ⟨h1, h2⟩ := reopen_with (F := F + 1) hfit (by omega) hrs hfb.1 hq hw
      rw [← usedBy_snoc] at h1 h2
      exact ⟨rs ++ [b], rfl, rfl, by show F + 1 ≤ F + 1 + 1; omega, h1, h2, by rw [usedBy_snoc]; exact hfit, .inr ⟨b, rfl, rfl⟩⟩
    · obtain ⟨h1, h2⟩ := reopen_without (F := F + 1) hfit (by omega) hrs hfb.1 hq hw
      exact ⟨rs, rfl, rfl, by show F + 1 ≤ F + 1 + 1; omega, h1, h2, a.fit.1, .inl rfl⟩
theorem Pl.reop2 (a : Pl w0 w g h j N F rs v p late) : ∃ rs', Reop N rs late (p.falls + 1) ({ p with snag := 0 } : Pd).mend rs' := by
  have hrs : ∀ b ∈ rs, 1 ≤ b.length := fun b hb => (a.big b hb).1
  have hN := a.fit.2
  cases late with
  | none =>
    obtain ⟨s, _, _, rfl⟩ := a.mode
    rw [up_mend]
    obtain ⟨h1, h2⟩ := reopen_plain (N := N) (F := F) (rs := rs) a.fit.1 (by omega) hrs
    exact ⟨rs, rfl, rfl, by show F ≤ F + 1; omega, h1, h2, a.fit.1, .inl rfl⟩
  | some b =>
    obtain ⟨s, t, q, hq, hfit, rfl⟩ := a.mode
    have e : ({ ({ hitP (padOf N F s rs) (usedBy rs) ((pagesV (usedBy rs) b).take q) with snag := t } : Pd) with snag := 0 } : Pd).mend = padOf N (F + 1) 0 rs := fall_mend (s := s) hfit hq
    rw [e]
    obtain ⟨h1, h2⟩ := reopen_plain (N := N) (F := F + 1) (rs := rs) a.fit.1 (by omega) hrs
    exact ⟨rs, rfl, rfl, by show F + 1 ≤ F + 1 + 1; omega, h1, h2, a.fit.1, .inl rfl⟩
/-- Open. -/
theorem Pl.open_ {p2 : Pd} {rs' : List (List Int)} {B : Int} (a : Pl w0 w g h j N F rs v p late) (hp : PadAt w' g h p2) (ho : Off g h w w') (hr : Reop N rs late B p2 rs') (hB : B ≤ 100) :
    Calls Try.prog 36 #[.pointer (some ⟨g, 0, none⟩)] w' fun e w2 => ∃ j' v', e = .returned (.tuple #[.pointer (some ⟨j', 0, none⟩), .int .i64 0]) ∧ Pl w0 w2 g h j' N p2.falls rs' v' (padOf N p2.falls 0 rs') none ∧ Off g h w' w2 ∧ (∀ k, v'.ownBlock = some k → w'.heap.size ≤ k) := by
  obtain ⟨r1, r2, r3, r4, r5, r6, r7⟩ := hr
  have hbig : ∀ b ∈ rs', fine b := by
    rcases r7 with rfl | ⟨b, hb, rfl⟩
    · exact a.big
    · intro x hx
      rcases List.mem_append.1 hx with hx | hx
      · exact a.big x hx
      · rw [List.mem_singleton] at hx; subst hx; exact a.lateb _ hb
  have hbl := a.below.trans (ho.below a.ge.1 a.ge.2.1 a.below.size)
  refine (St.open_ (w0 := w0) (N := N) (F := p2.falls) (rs := rs') hp r1 r2 rfl (by omega) r4 r5 rfl a.ge.1 a.ge.2.1 hbl r6 (fun b hb => ⟨(hbig b hb).1, by have := (hbig b hb).2.1; omega⟩)).mono ?_
  rintro e w2 ⟨j', v', rfl, hs, _, ho2, hrec⟩
  exact ⟨j', v', rfl, ⟨hs.pad, hs.jou, hs.ge, hs.below, ⟨r6, a.fit.2⟩, hbig, ⟨0, by omega, by omega, rfl⟩, fun _ e => by cases e⟩, ho2, fun k hk => (hrec.block k hk).1⟩
end
end Go.Proofs.Ytdjkkpefljapcaa
