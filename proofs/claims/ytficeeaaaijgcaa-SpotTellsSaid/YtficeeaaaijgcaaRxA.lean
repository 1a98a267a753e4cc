/-
  The package rx: of, walk, Check.
-/
import Derived.Test.YtficeeaaaijgcaaR7b
namespace Go.Proofs.Ytficeeaaaijgcaa
open Go.RowKit
set_option linter.unusedVariables false

/-- a step as a value -/
def valX (x : Rx) : Value := .agg #[.int .i64 x.kind, .int .u64 x.s0, .int .u64 x.s1, .int .u64 x.s2, .int .u64 x.s3]

def partsOf (k : Int) : Int := if ofK k < 0 then 0 else ofK k
def kindOk (k : Int) : Bool := decide (0 ≤ ofK k)

set_option maxHeartbeats 1000000 in
theorem rx_of_any (k s0 s1 s2 s3 : Int) (w : World) : Calls Try.prog 126 #[.agg #[.int .i64 k, .int .u64 s0, .int .u64 s1, .int .u64 s2, .int .u64 s3]] w fun e w' =>
    e = .returned (.tuple #[.int .i64 (partsOf k), .bool (kindOk k)]) ∧ Below w.heap.size w w' := by
  have h : k = 1 ∨ k = 2 ∨ k = 3 ∨ k = 4 ∨ k = 5 ∨ k = 6 ∨ k = 7 ∨ (k ≠ 1 ∧ k ≠ 2 ∧ k ≠ 3 ∧ k ≠ 4 ∧ k ≠ 5 ∧ k ≠ 6 ∧ k ≠ 7) := by omega
  rcases h with rfl | rfl | rfl | rfl | rfl | rfl | rfl | ⟨h1, h2, h3, h4, h5, h6, h7⟩
  case inr.inr.inr.inr.inr.inr.inr =>
    have g1 : (k == 1) = false := by simpa using h1
    have g2 : (k == 2) = false := by simpa using h2
    have g3 : (k == 3) = false := by simpa using h3
    have g4 : (k == 4) = false := by simpa using h4
    have g5 : (k == 5) = false := by simpa using h5
    have g6 : (k == 6) = false := by simpa using h6
    have g7 : (k == 7) = false := by simpa using h7
    have e : ofK k = -1 := by simp [ofK, h1, h2, h3, h4, h5, h6, h7]
    have He := Lib.hid e
    clear e h1 h2 h3 h4 h5 h6 h7
    go_enter Try.func126, Try.ntmps126
    go_wp2
    go_ret2
    exact ⟨by unfold partsOf kindOk; rw [He.out]; rfl, (Below.refl _ _).alloc (Nat.le_refl _) _⟩
  all_goals
    go_enter Try.func126, Try.ntmps126
    go_wp2
    go_ret2
    exact ⟨rfl, (Below.refl _ _).alloc (Nat.le_refl _) _⟩
def WkRel (l : List Rx) (T : Int) (w : World) (p i : Value) (m : Value) (wr : World) : Prop :=
  Below w.heap.size w wr ∧ ∃ (k : Nat) (q r : Int), k ≤ l.length ∧ i = .int .i64 k ∧ p = .int .i64 q ∧ m = .int .i64 r ∧ 0 ≤ q ∧ q ≤ k ∧ 0 ≤ r ∧ r ≤ k ∧ checkLoop (l.drop k) q = T

/-- what walk returns, as far as Check asks: the number of parts, and what is wrong -/
def WalkEnd (l : List Rx) (T : Int) (w : World) (e : Ending) (w' : World) : Prop :=
  Below w.heap.size w w' ∧ ∃ q r u : Int, e = .returned (.tuple #[.int .i64 q, .int .i64 r, .int .i64 u]) ∧ (if u = 0 ∧ q ≠ 1 then 3 else u) = T

set_option maxHeartbeats 2000000 in
set_option maxRecDepth 100000 in
theorem rx_walk_any (v : Value) (l : List Rx) (w : World) (hv : RdX w v l) : Calls Try.prog 107 #[v] w (WalkEnd l (checkL l) w) := by
  obtain ⟨a, c, rfl⟩ := hv.shape
  by_cases hlen : l.length ≤ 512
  · have hlen' : ¬ (512 : Int) < l.length := by omega
    obtain ⟨T, hT⟩ : ∃ T, T = checkL l := ⟨_, rfl⟩
    rw [← hT]
    have e0 : checkLoop l 0 = T := by rw [hT]; unfold checkL; rw [if_neg (by omega)]
    clear hT
    have He0 := Lib.hid e0; clear e0
    go_enter Try.func107, Try.ntmps107
    go_wp2_with fail
    go_loopw [5, 16, 6] (WkRel l T w) (fun _ i _ _ => l.length - (intOf i).toNat)
    case atStart => exact ⟨Below.refl _ _, 0, 0, 0, by omega, rfl, rfl, rfl, by omega, by omega, by omega, by omega, He0.out⟩
    case round =>
      obtain ⟨hb, k, q, r, hk, rfl, rfl, rfl, hq1, hq2, hr1, hr2, hrel⟩ := hrel
      have Hrel := Lib.hid hrel; clear hrel
      by_cases hlt : k < l.length
      · obtain ⟨_, _, _⟩ := hv.kindAt k hlt
        obtain ⟨a', c', hva, hcc⟩ := hv.below hb
        obtain ⟨b, o, hab, h0, h1, h2, h3, h4⟩ := hcc k hlt
        cases hva
        cases hab
        have Hdrop := Lib.hid (drop_cons l k hlt)
        clear hcc
        go_wp2_with fail
        refine (rx_of_any _ _ _ _ _ _).mono ?_
        rintro e1 w2 ⟨rfl, hb2⟩
        have hB2 : Below w.heap.size w w2 := (hb.alloc hb.size _).trans (hb2.mono (by have := hb.size; simp; omega))
        have hcs : ∀ i, i < 5 → w2.cell? ⟨wr.heap.size, i, none⟩ = (#[Value.int .i64 l[k].kind, .int .u64 l[k].s0, .int .u64 l[k].s1, .int .u64 l[k].s2, .int .u64 l[k].s3] : Array Value)[i]? := fun i hi => by
          rw [hb2.cell (p := ⟨wr.heap.size, i, none⟩) (by simp), World.cell?_alloc_at _ _ _ _ rfl]
        have g0 := hcs 0 (by omega)
        have g1 := hcs 1 (by omega)
        have g2 := hcs 2 (by omega)
        have g3 := hcs 3 (by omega)
        have g4 := hcs 4 (by omega)
        simp at g0 g1 g2 g3 g4
        have Hd : Hid (checkLoop (l[k] :: l.drop (k + 1)) q = T) := Lib.hid (by rw [← Hdrop.out]; exact Hrel.out)
        have hox := ofK_ge l[k].kind
        clear hcs hb2 hb h0 h1 h2 h3 h4 Hdrop Hrel hv
        by_cases hok : 0 ≤ ofK l[k].kind
        · have hok' : kindOk l[k].kind = true := decide_eq_true hok
          have hpx : partsOf l[k].kind = ofK l[k].kind := by unfold partsOf; rw [if_neg (by omega)]
          have Hr0 : Hid (¬ (l[k].kind ≠ 1 ∧ l[k].bare = false) → (if q < ofK l[k].kind then 3 else checkLoop (l.drop (k + 1)) (q - ofK l[k].kind + 1)) = T) := Lib.hid (fun hn => by
            have := Hd.out; rw [checkLoop, if_neg (by rintro (h | h); omega; exact hn h)] at this; exact this)
          rw [hok', hpx]
          clear hok' hpx
          generalize ofK l[k].kind = x at Hr0 hox hok ⊢
          obtain ⟨hx1, hx2⟩ := hox
          by_cases hx0 : x < 0
          · exact absurd hok (by omega)
          · have hx0' : 0 ≤ x := by omega
            clear hx0 hok
            by_cases hk1 : l[k].kind = 1
            · have hk2 : (l[k].kind != 1) = false := by simp [hk1]
              have Hr := Lib.hid (Hr0.out (fun h => h.1 hk1))
              clear hk1 Hd Hr0
              by_cases hq : q < x
              · have Hf := Lib.hid (show T = 3 by have := Hr.out; rw [if_pos hq] at this; exact this.symm)
                clear Hr
                go_wp2_with fail
                go_ret3
                exact ⟨hB2, 0, 0, 3, rfl, by rw [Hf.out]; rfl⟩
              · have Hf := Lib.hid (show checkLoop (l.drop (k + 1)) (q - x + 1) = T by have := Hr.out; rw [if_neg hq] at this; exact this)
                clear Hr
                have hq' : x ≤ q := by omega
                go_wp2_with fail
                go_roundw
                case rel => exact ⟨hB2, k + 1, q - x + 1, max r (q - x + 1), by omega, by go_num, by congr 1; omega, by congr 1; omega, by omega, by omega, by omega, by omega, Hf.out⟩
                case measure => simp [intOf]; omega
            · have hk2 : (l[k].kind != 1) = true := by simpa using hk1
              by_cases hbb : l[k].bare = true
              · have hb' : setEq l[k].s0 l[k].s1 l[k].s2 l[k].s3 0 0 0 0 = true := hbb
                have Hr := Lib.hid (Hr0.out (fun h => by rw [hbb] at h; cases h.2))
                clear hk1 Hd Hr0 hbb
                by_cases hq : q < x
                · have Hf := Lib.hid (show T = 3 by have := Hr.out; rw [if_pos hq] at this; exact this.symm)
                  clear Hr
                  go_wp2_with fail
                  go_ret3
                  exact ⟨hB2, 0, 0, 3, rfl, by rw [Hf.out]; rfl⟩
                · have Hf := Lib.hid (show checkLoop (l.drop (k + 1)) (q - x + 1) = T by have := Hr.out; rw [if_neg hq] at this; exact this)
                  clear Hr
                  have hq' : x ≤ q := by omega
                  go_wp2_with fail
                  go_roundw
                  case rel => exact ⟨hB2, k + 1, q - x + 1, max r (q - x + 1), by omega, by go_num, by congr 1; omega, by congr 1; omega, by omega, by omega, by omega, by omega, Hf.out⟩
                  case measure => simp [intOf]; omega
              · have hb' : setEq l[k].s0 l[k].s1 l[k].s2 l[k].s3 0 0 0 0 = false := by rw [Bool.not_eq_true] at hbb; exact hbb
                have Hf := Lib.hid (show T = 1 by have := Hd.out; rw [checkLoop, if_pos (Or.inr ⟨hk1, hb'⟩)] at this; exact this.symm)
                clear hk1 Hd Hr0 hbb
                go_wp2_with fail
                go_ret3
                exact ⟨hB2, 0, 0, 1, rfl, by rw [Hf.out]; rfl⟩
        · have hok' : kindOk l[k].kind = false := decide_eq_false hok
          have Hf := Lib.hid (show T = 1 by have := Hd.out; rw [checkLoop, if_pos (Or.inl (by omega))] at this; exact this.symm)
          rw [hok']
          clear hok' hok Hd hox
          go_wp2_with fail
          go_ret3
          exact ⟨hB2, 0, 0, 1, rfl, by rw [Hf.out]; rfl⟩
      · have e : l.drop k = [] := List.drop_eq_nil_of_le (by omega)
        have hf : (if q = 1 then 0 else 3) = T := by have := Hrel.out; rw [e, checkLoop] at this; exact this
        have Hf := Lib.hid hf
        clear hf e Hrel
        go_wp2_with fail
        go_ret3
        exact ⟨hb, q, r, 0, rfl, by rw [← Hf.out]; by_cases h : q = 1 <;> simp [h]⟩
  · have hlen' : (512 : Int) < l.length := by omega
    have e0 : checkL l = 4 := by unfold checkL; rw [if_pos (by omega)]
    rw [e0]
    clear e0
    go_enter Try.func107, Try.ntmps107
    go_wp2
    go_ret3
    exact ⟨Below.refl _ _, 0, 0, 4, rfl, rfl⟩

set_option maxHeartbeats 1000000 in
theorem rx_Check_any (v : Value) (l : List Rx) (w : World) (hv : RdX w v l) : Calls Try.prog 88 #[v] w fun e w' => e = .returned (.int .i64 (checkL l)) ∧ Below w.heap.size w w' := by
  obtain ⟨T, hT⟩ : ∃ T, checkL l = T := ⟨_, rfl⟩
  have hwalk := rx_walk_any v l w hv
  rw [hT] at hwalk ⊢
  have Hw := Lib.hid hwalk; clear hwalk hT
  go_enter Try.func88, Try.ntmps88
  go_wp2_with fail
  refine Hw.out.mono ?_
  rintro e w1 ⟨hb, q, r, u, rfl, hif⟩
  by_cases hu : u = 0
  · by_cases hq : q = 1
    · have h1 : (u == 0) = true := by simp [hu]
      have h2 : (q != 1) = false := by simp [hq]
      have Hf := Lib.hid (show u = T by rw [if_neg (by omega)] at hif; exact hif)
      clear hu hq hif
      go_wp2_with fail
      go_ret
      exact ⟨ret_i Hf.out, hb⟩
    · have h1 : (u == 0) = true := by simp [hu]
      have h2 : (q != 1) = true := by simpa using hq
      have Hf := Lib.hid (show 3 = T by rw [if_pos ⟨hu, hq⟩] at hif; exact hif)
      clear hu hq hif
      go_wp2_with fail
      go_ret
      exact ⟨ret_i Hf.out, hb⟩
  · have h1 : (u == 0) = false := by simpa using hu
    have Hf := Lib.hid (show u = T by rw [if_neg (by omega)] at hif; exact hif)
    clear hu hif
    go_wp2_with fail
    go_ret
    exact ⟨ret_i Hf.out, hb⟩
end Go.Proofs.Ytficeeaaaijgcaa
