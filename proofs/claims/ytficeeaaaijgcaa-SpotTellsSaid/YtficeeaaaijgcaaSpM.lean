/-
  The package spot: the pure machine that over is.
-/
import Derived.Test.YtficeeaaaijgcaaSpA
namespace Go.Proofs.Ytficeeaaaijgcaa
open Go.RowKit
set_option linter.unusedVariables false
def pickU (f : Bool) (l m r : List Int) : List Int := if f then riseL (l ++ m) else r
/-- a part: where its spellings begin and end, whether it may be empty, how many spots it has -/
structure Pt where
  first : List Int
  last : List Int
  free : Bool
  n : Int
/-- what over has gone over: its sets, what follows each, the parts at hand, the last one first -/
structure SM where
  sets : List Rx
  fol : List (List Int)
  st : List Pt
def stepS (s : SM) (x : Rx) : SM :=
  if x.kind = 1 then ⟨s.sets ++ [x], s.fol ++ [[]], ⟨[(s.sets.length : Int)], [(s.sets.length : Int)], false, 1⟩ :: s.st⟩
  else if x.kind = 2 then ⟨s.sets, s.fol, ⟨[], [], true, 0⟩ :: s.st⟩
  else if x.kind = 3 then match s.st with
    | b :: a :: r => ⟨s.sets, a.last.foldl (updF b.first) s.fol, ⟨pickU a.free a.first b.first a.first, pickU b.free a.last b.last b.last, a.free && b.free, a.n + b.n⟩ :: r⟩
    | _ => s
  else if x.kind = 4 then match s.st with
    | b :: a :: r => ⟨s.sets, s.fol, ⟨riseL (a.first ++ b.first), riseL (a.last ++ b.last), a.free || b.free, a.n + b.n⟩ :: r⟩
    | _ => s
  else match s.st with
    | a :: r => ⟨s.sets, if x.kind = 7 then s.fol else a.last.foldl (updF a.first) s.fol, ⟨a.first, a.last, a.free || decide (x.kind ≠ 6), a.n⟩ :: r⟩
    | _ => s
def runS (l : List Rx) : SM := l.foldl stepS ⟨[], [], []⟩
theorem runS_succ (l : List Rx) (k : Nat) (hk : k < l.length) : runS (l.take (k + 1)) = stepS (runS (l.take k)) l[k] := by
  unfold runS
  rw [List.take_succ_eq_append_getElem hk, List.foldl_append]
  rfl
def PtOk (m : Nat) (p : Pt) : Prop := (Rising p.first ∧ ∀ x ∈ p.first, 0 ≤ x ∧ x < m) ∧ (Rising p.last ∧ ∀ x ∈ p.last, 0 ≤ x ∧ x < m) ∧ 0 ≤ p.n
def sumN : List Pt → Int
  | [] => 0
  | p :: r => p.n + sumN r
structure SMok (s : SM) : Prop where
  len : s.fol.length = s.sets.length
  fol : SmF s.sets.length s.fol
  pts : ∀ p ∈ s.st, PtOk s.sets.length p
  sum : sumN s.st ≤ s.sets.length
theorem sumN_nonneg (m : Nat) (l : List Pt) (h : ∀ p ∈ l, PtOk m p) : 0 ≤ sumN l := by
  induction l with
  | nil => simp [sumN]
  | cons p r ih =>
    have := ih (fun q hq => h q (by simp [hq]))
    have := (h p (by simp)).2.2
    simp [sumN]
    omega
theorem SmF.mono {N M : Nat} {fol : List (List Int)} (h : SmF N fol) (hm : N ≤ M) : SmF M fol := fun l hl => ⟨(h l hl).1, fun x hx => by have := (h l hl).2 x hx; omega⟩
theorem PtOk.mono {N M : Nat} {p : Pt} (h : PtOk N p) (hm : N ≤ M) : PtOk M p := ⟨⟨h.1.1, fun x hx => by have := h.1.2 x hx; omega⟩, ⟨h.2.1.1, fun x hx => by have := h.2.1.2 x hx; omega⟩, h.2.2⟩
theorem riseL_ok {m : Nat} {a b : List Int} (ha : ∀ x ∈ a, 0 ≤ x ∧ x < (m : Int)) (hb : ∀ x ∈ b, 0 ≤ x ∧ x < (m : Int)) : Rising (riseL (a ++ b)) ∧ ∀ x ∈ riseL (a ++ b), 0 ≤ x ∧ x < (m : Int) :=
  ⟨riseL_rise _, fun x hx => by
    rw [riseL_mem, List.mem_append] at hx
    rcases hx with hx | hx
    · exact ha x hx
    · exact hb x hx⟩
theorem stepS_ok (s : SM) (x : Rx) (h : SMok s) : SMok (stepS s x) ∧ (stepS s x).sets.length ≤ s.sets.length + 1 := by
  obtain ⟨sets, fol, st⟩ := s
  obtain ⟨hl, hf, hp, hs⟩ := h
  simp only at hl hf hp hs
  unfold stepS
  simp only
  by_cases h1 : x.kind = 1
  · rw [if_pos h1]
    have hm : sets.length ≤ (sets ++ [x]).length := by simp
    refine ⟨⟨by simp [hl], ?_, ?_, ?_⟩, by simp⟩
    · intro l hl'
      simp only [List.mem_append, List.mem_singleton] at hl'
      rcases hl' with hl' | rfl
      · exact hf.mono hm l hl'
      · exact ⟨List.Pairwise.nil, fun x hx => by cases hx⟩
    · intro p hp'
      simp only [List.mem_cons] at hp'
      rcases hp' with rfl | hp'
      · refine ⟨⟨by simp [Rising], fun x hx => ?_⟩, ⟨by simp [Rising], fun x hx => ?_⟩, by simp⟩
        · simp at hx; simp; omega
        · simp at hx; simp; omega
      · exact (hp p hp').mono hm
    · simp [sumN]
      omega
  · rw [if_neg h1]
    by_cases h2 : x.kind = 2
    · rw [if_pos h2]
      refine ⟨⟨hl, hf, ?_, by simpa [sumN] using hs⟩, by simp⟩
      intro p hp'
      simp only [List.mem_cons] at hp'
      rcases hp' with rfl | hp'
      · exact ⟨⟨List.Pairwise.nil, fun x hx => by cases hx⟩, ⟨List.Pairwise.nil, fun x hx => by cases hx⟩, by simp⟩
      · exact hp p hp'
    · rw [if_neg h2]
      by_cases h3 : x.kind = 3
      · rw [if_pos h3]
        match st, hp, hs with
        | b :: a :: r, hp, hs =>
          have pa := hp a (by simp)
          have pb := hp b (by simp)
          refine ⟨⟨?_, ?_, ?_, ?_⟩, by simp⟩
          · simp only [foldl_updF_len]; exact hl
          · exact hf.fold _ pb.1.2 _
          · intro p hp'
            simp only [List.mem_cons] at hp'
            rcases hp' with rfl | hp'
            · refine ⟨?_, ?_, by have := pa.2.2; have := pb.2.2; simp only; omega⟩
              · unfold pickU; dsimp only; split
                · exact riseL_ok pa.1.2 pb.1.2
                · exact pa.1
              · unfold pickU; dsimp only; split
                · exact riseL_ok pa.2.1.2 pb.2.1.2
                · exact pb.2.1
            · exact hp p (by simp [hp'])
          · simp [sumN] at hs ⊢; omega
        | [], hp, hs => exact ⟨⟨hl, hf, hp, hs⟩, by simp⟩
        | [_], hp, hs => exact ⟨⟨hl, hf, hp, hs⟩, by simp⟩
      · rw [if_neg h3]
        by_cases h4 : x.kind = 4
        · rw [if_pos h4]
          match st, hp, hs with
          | b :: a :: r, hp, hs =>
            have pa := hp a (by simp)
            have pb := hp b (by simp)
            refine ⟨⟨hl, hf, ?_, ?_⟩, by simp⟩
            · intro p hp'
              simp only [List.mem_cons] at hp'
              rcases hp' with rfl | hp'
              · exact ⟨riseL_ok pa.1.2 pb.1.2, riseL_ok pa.2.1.2 pb.2.1.2, by have := pa.2.2; have := pb.2.2; simp only; omega⟩
              · exact hp p (by simp [hp'])
            · simp [sumN] at hs ⊢; omega
          | [], hp, hs => exact ⟨⟨hl, hf, hp, hs⟩, by simp⟩
          | [_], hp, hs => exact ⟨⟨hl, hf, hp, hs⟩, by simp⟩
        · rw [if_neg h4]
          match st, hp, hs with
          | a :: r, hp, hs =>
            have pa := hp a (by simp)
            refine ⟨⟨?_, ?_, ?_, ?_⟩, by simp⟩
            · simp only; split
              · exact hl
              · rw [foldl_updF_len]; exact hl
            · simp only; split
              · exact hf
              · exact hf.fold _ pa.1.2 _
            · intro p hp'
              simp only [List.mem_cons] at hp'
              rcases hp' with rfl | hp'
              · exact ⟨pa.1, pa.2.1, pa.2.2⟩
              · exact hp p (by simp [hp'])
            · simp [sumN] at hs ⊢; omega
          | [], hp, hs => exact ⟨⟨hl, hf, hp, hs⟩, by simp⟩
theorem runS_ok (l : List Rx) (k : Nat) (hk : k ≤ l.length) : SMok (runS (l.take k)) ∧ (runS (l.take k)).sets.length ≤ k := by
  induction k with
  | zero => exact ⟨⟨rfl, fun l hl => by simp [runS] at hl, fun p hp => by simp [runS] at hp, by simp [runS, sumN]⟩, by simp [runS]⟩
  | succ k ih =>
    obtain ⟨h1, h2⟩ := ih (by omega)
    rw [runS_succ l k hk]
    have := stepS_ok _ l[k] h1
    exact ⟨this.1, by omega⟩
end Go.Proofs.Ytficeeaaaijgcaa
