import Derived.Test.YtficeeaaaijgcaaKit
import Derived.Test.YtficeeaaaijgcaaRxFn
import Derived.Test.YtficeeaaaijgcaaSet
namespace Go.Proofs.Ytficeeaaaijgcaa
open Go.RowKit

def RdX (w : World) (v : Value) (l : List Rx) : Prop :=
  ∃ (a : Option Addr) (c : Nat), v = .slice a l.length c ∧ ∀ (j : Nat) (h : j < l.length), ∃ b o, a = some ⟨b, o, none⟩ ∧
    w.cell? ⟨b, o + j * 5, none⟩ = some (.int .i64 l[j].kind) ∧ w.cell? ⟨b, o + j * 5 + 1, none⟩ = some (.int .u64 l[j].s0) ∧ w.cell? ⟨b, o + j * 5 + 1 + 1, none⟩ = some (.int .u64 l[j].s1) ∧
    w.cell? ⟨b, o + j * 5 + 1 + 2, none⟩ = some (.int .u64 l[j].s2) ∧ w.cell? ⟨b, o + j * 5 + 1 + 3, none⟩ = some (.int .u64 l[j].s3)

set_option maxHeartbeats 400000 in
theorem ref7_Of_any (k : Int) (w : World) : Calls Try.prog 63 #[.int .i64 k] w fun e w' => e = .returned (.int .i64 (ofK k)) ∧ w = w' := by
  have h : k = 1 ∨ k = 2 ∨ k = 3 ∨ k = 4 ∨ k = 5 ∨ k = 6 ∨ k = 7 ∨ (k ≠ 1 ∧ k ≠ 2 ∧ k ≠ 3 ∧ k ≠ 4 ∧ k ≠ 5 ∧ k ≠ 6 ∧ k ≠ 7) := by omega
  rcases h with rfl | rfl | rfl | rfl | rfl | rfl | rfl | ⟨h1, h2, h3, h4, h5, h6, h7⟩
  case inr.inr.inr.inr.inr.inr.inr =>
    have g1 : (k == 1) = false := by simpa using h1
    have g2 : (k == 2) = false := by simpa using h2
    have g3 : (k == 3) = false := by simpa using h3
    have g4 : (k == 4) = false := by simpa using h4
    have g5 : (k == 5) = false := by simpa using h5
    have g6 : (k == 6) = false := by simpa using h6
    have g7 : (k == 7) = false := by simpa using h7
    have e : ofK k = -1 := by simp [ofK, h1, h2, h3, h4, h5, h6, h7]
    rw [e]
    clear e h1 h2 h3 h4 h5 h6 h7
    go_enter Try.func63, Try.ntmps63
    go_wp2
    go_ret
    exact ⟨rfl, rfl⟩
  all_goals
    go_enter Try.func63, Try.ntmps63
    go_wp2
    go_ret
    exact ⟨rfl, rfl⟩

theorem ret_i {a b : Int} (h : a = b) : Ending.returned (.int .i64 a) = .returned (.int .i64 b) := by rw [h]

def ChkRel (l : List Rx) (T : Int) (w : World) (p i : Value) (wr : World) : Prop :=
  wr = w ∧ ∃ (k : Nat) (q : Int), k ≤ l.length ∧ i = .int .i64 k ∧ p = .int .i64 q ∧ 0 ≤ q ∧ q ≤ k ∧ checkLoop (l.drop k) q = T

set_option maxHeartbeats 1000000 in
set_option maxRecDepth 100000 in
theorem ref7_Check_any (v : Value) (l : List Rx) (w : World) (hv : RdX w v l) : Calls Try.prog 24 #[v] w fun e w' => e = .returned (.int .i64 (checkL l)) ∧ w = w' := by
  obtain ⟨a, c, rfl, hc⟩ := hv
  by_cases hlen : l.length ≤ 512
  · have hlen' : ¬ (512 : Int) < l.length := by omega
    have e0 : checkL l = checkLoop l 0 := by unfold checkL; rw [if_neg (by omega)]
    rw [e0]
    clear e0
    obtain ⟨T, hT⟩ : ∃ T, T = checkLoop l 0 := ⟨_, rfl⟩
    rw [← hT]
    have HT := Lib.hid hT; clear hT
    go_enter Try.func24, Try.ntmps24
    go_wp2
    go_loopw [3, 4] (ChkRel l T w) (fun _ i _ => l.length - (intOf i).toNat)
    case atStart => exact ⟨rfl, 0, 0, by omega, rfl, rfl, by omega, by omega, HT.out.symm⟩
    case round =>
      obtain ⟨rfl, k, q, hk, rfl, rfl, hq1, hq2, hrel⟩ := hrel
      by_cases hlt : k < l.length
      · rw [drop_cons l k hlt, checkLoop] at hrel
        have Hrel := Lib.hid hrel; clear hrel
        obtain ⟨b, o, rfl, h0, h1, h2, h3, h4⟩ := hc k hlt
        clear hc
        go_wp2_with fail
        refine (ref7_Of_any _ _).mono ?_
        rintro e w1 ⟨rfl, rfl⟩
        have hx := ofK_ge l[k].kind
        generalize ofK l[k].kind = x at Hrel hx ⊢
        obtain ⟨hx1, hx2⟩ := hx
        by_cases hx : x < 0
        · have hfin : T = 1 := by have := Hrel.out; rw [if_pos (Or.inl hx)] at this; exact this.symm
          have Hf := Lib.hid hfin; clear hfin
          clear Hrel
          go_wp2_with fail
          go_ret
          exact ⟨ret_i Hf.out.symm, rfl⟩
        · have hx' : 0 ≤ x := by omega
          clear hx
          by_cases hk1 : l[k].kind = 1
          · have hk2 : (l[k].kind != 1) = false := by simp [hk1]
            have Hr : Hid ((if q < x then 3 else checkLoop (l.drop (k + 1)) (q - x + 1)) = T) := Lib.hid (by have := Hrel.out; rw [if_neg (by omega)] at this; exact this)
            clear hk1 Hrel
            by_cases hq : q < x
            · have Hf := Lib.hid (show T = 3 by have := Hr.out; rw [if_pos hq] at this; exact this.symm)
              clear Hr
              go_wp2_with fail
              go_ret
              exact ⟨ret_i Hf.out.symm, rfl⟩
            · have Hf := Lib.hid (show checkLoop (l.drop (k + 1)) (q - x + 1) = T by have := Hr.out; rw [if_neg hq] at this; exact this)
              clear Hr
              go_wp2_with fail
              go_roundw
              case rel => exact ⟨rfl, k + 1, q - x + 1, by omega, by go_num, rfl, by omega, by omega, Hf.out⟩
              case measure => simp [intOf]; omega
          · have hk2 : (l[k].kind != 1) = true := by simpa using hk1
            by_cases hb : l[k].bare = true
            · have hb' : setEq l[k].s0 l[k].s1 l[k].s2 l[k].s3 0 0 0 0 = true := hb
              have Hr : Hid ((if q < x then 3 else checkLoop (l.drop (k + 1)) (q - x + 1)) = T) := Lib.hid (by have := Hrel.out; rw [if_neg (by rw [hb]; simp; omega)] at this; exact this)
              clear hk1 Hrel hb
              by_cases hq : q < x
              · have Hf := Lib.hid (show T = 3 by have := Hr.out; rw [if_pos hq] at this; exact this.symm)
                clear Hr
                go_wp2_with fail
                go_ret
                exact ⟨ret_i Hf.out.symm, rfl⟩
              · have Hf := Lib.hid (show checkLoop (l.drop (k + 1)) (q - x + 1) = T by have := Hr.out; rw [if_neg hq] at this; exact this)
                clear Hr
                go_wp2_with fail
                go_roundw
                case rel => exact ⟨rfl, k + 1, q - x + 1, by omega, by go_num, rfl, by omega, by omega, Hf.out⟩
                case measure => simp [intOf]; omega
            · have hb' : setEq l[k].s0 l[k].s1 l[k].s2 l[k].s3 0 0 0 0 = false := by rw [Bool.not_eq_true] at hb; exact hb
              have Hf := Lib.hid (show T = 1 by have := Hrel.out; rw [if_pos (Or.inr ⟨hk1, hb'⟩)] at this; exact this.symm)
              clear hk1 Hrel hb
              go_wp2_with fail
              go_ret
              exact ⟨ret_i Hf.out.symm, rfl⟩
      · have e : l.drop k = [] := List.drop_eq_nil_of_le (by omega)
        rw [e, checkLoop] at hrel
        by_cases hq : q = 1
        · have hq' : (q != 1) = false := by simp [hq]
          have Hf := Lib.hid (show T = 0 by rw [if_pos hq] at hrel; exact hrel.symm)
          clear hrel e hq
          go_wp2_with fail
          go_ret
          exact ⟨ret_i Hf.out.symm, rfl⟩
        · have hq' : (q != 1) = true := by simpa using hq
          have Hf := Lib.hid (show T = 3 by rw [if_neg hq] at hrel; exact hrel.symm)
          clear hrel e hq
          go_wp2_with fail
          go_ret
          exact ⟨ret_i Hf.out.symm, rfl⟩
  · have hlen' : (512 : Int) < l.length := by omega
    have e0 : checkL l = 4 := by unfold checkL; rw [if_pos (by omega)]
    rw [e0]
    clear e0
    go_enter Try.func24, Try.ntmps24
    go_wp2
    go_ret
    exact ⟨rfl, rfl⟩
end Go.Proofs.Ytficeeaaaijgcaa
