/-
  The package spot over pure values: pop, set, cat.
-/
import Derived.Test.YtficeeaaaijgcaaSq
namespace Go.Proofs.Ytficeeaaaijgcaa
open Go Go.RowKit L
set_option linter.unusedVariables false
set_option linter.unusedSimpArgs false

theorem setMany_all {α : Type} (cs ps : List α) (h : ps.length = cs.length) : setMany cs 0 ps = ps := by
  unfold setMany
  simp [h]

set_option maxRecDepth 20000 in
set_option maxHeartbeats 1000000 in
theorem pop_in (s t vs vt m B0 : Nat) (H : PHeap) (cs : List PV) (a b c d : PV)
    (hs : H s = ⟨vs, some (.box 115 [.ps t vt])⟩) (ht : H t = ⟨vt, some (.row 83 4 (m + 1) (cs ++ [a, b, c, d]))⟩) (hcs : cs.length = m * 4) (hst : s ≠ t) (hsB : s < B0) (htB : t < B0) (hm : m ≤ 1000000)
    (hla : ∀ H', leafOk H' a = true) (hlb : ∀ H', leafOk H' b = true) (hlc : ∀ H', leafOk H' c = true) (hld : ∀ H', leafOk H' d = true) :
    PIn Try.prog 89 [.pp s 0 vs] H (fun q H' => q = .agg [a, b, c, d] ∧ H' s = ⟨vs, some (.box 115 [.ps t (vt + 1)])⟩ ∧ H' t = ⟨vt + 1, some (.row 83 4 m cs)⟩ ∧ ∀ j, j < B0 → j ≠ s → j ≠ t → H' j = H j) := by
  have n1 : s ≠ B0 := by omega
  have n2 : t ≠ B0 := by omega
  have n3 : s ≠ B0 + 1 := by omega
  have n4 : t ≠ B0 + 1 := by omega
  have hts : t ≠ s := fun h => hst h.symm
  have hS : ∀ (ty : Nat) (x y : Operand), binP Try.prog .sub ty x y (I ((m : Int) + 1)) (I 1) = some (I (m : Int)) := fun ty x y => by rw [binP_sub (by omega) (by omega)]; simp
  have hd1 : (cs ++ [a, b, c, d]).drop (m * 4) = [a, b, c, d] := by rw [← hcs]; simp
  have hd2 : (cs ++ [a, b, c, d]).take (m * 4) = cs := by rw [← hcs]; simp
  refine PIn.intro Try.func89 rfl Try.ntmps89 (by simp) (by kernel_rfl) fun W => ?_
  refine PC.seq fun K hK => ?_
  refine PC.region ?_
  refine PL.pe rfl (PE.alloc (d := 1) (id := B0) rfl rfl (by simp) zeroC_83 rfl ?_)
  refine PL.done hK ?_; clear hK
  refine PC.seq fun K hK => ?_
  refine PC.region ?_
  repeat (refine PL.k rfl fun KK hKK => ?_; simp [go_sem, stepK, hs, ht, n1, n2, hS, hd1]; refine hKK _ ?_; clear hKK KK)
  refine PL.pe rfl (PE.alloc (d := 2) (id := B0 + 1) rfl rfl (by simp) zeroC_83 rfl ?_)
  refine PL.pe rfl (PE.store (id := B0 + 1) (off := 0) (ver := (H (B0 + 1)).ver + 1) (k := 4) (ag := true) (cs := [.u (.slice none 0 0), .u (.slice none 0 0), B false, I 0]) (bd := .box 83 [.u (.slice none 0 0), .u (.slice none 0 0), B false, I 0]) rfl (by simp [go_sem]) (by simp [go_sem]) (by simp [go_sem]) (by simp [go_sem]) (by simp [go_sem, okC, hla, hlb, hlc, hld]) (by simp [go_sem]) (by simp) (by simp [go_sem]) ?_)
  refine PL.done hK ?_; clear hK
  refine PC.seq fun K hK => ?_
  refine PC.region ?_
  repeat (refine PL.k rfl fun KK hKK => ?_; simp [go_sem, stepK, hs, ht, n1, n2, n3, n4, hS]; refine hKK _ ?_; clear hKK KK)
  refine PL.pe rfl (PE.trunc (id := t) (ver := vt) (k := 4) (m := m + 1) (j := m) (kd := .i64) (e := 83) (cs := cs ++ [a, b, c, d]) rfl rfl (by simp) esz_115 (by simp [go_sem]) (by simp [go_sem, ht, n2, n4]) (by simp [go_sem]) (by omega) ?_)
  refine PL.pe rfl (PE.store (id := s) (off := 0) (ver := vs) (k := 1) (ag := false) (cs := [.ps t vt]) (bd := .box 115 [.ps t vt]) rfl (by simp [go_sem]) (by simp [go_sem]) (by simp [go_sem, hs, n1, n3, hst]) (by simp [go_sem]) (by simp [go_sem, okC, leafOk]) (by simp [go_sem]) (by simp) (by simp [go_sem, hs, n1, n3, hst]) ?_)
  refine PL.done hK ?_; clear hK
  refine PC.seq fun K hK => ?_
  refine PC.region ?_
  have e0 : (B0 + 1 = B0) = False := by simp
  have e1 : (B0 = B0 + 1) = False := by simp
  repeat (refine PL.k rfl fun KK hKK => ?_; simp [go_sem, stepK, hs, ht, n1, n2, n3, n4, e0, e1, storeB, setMany_all, Ne.symm n1, Ne.symm n2, Ne.symm n3, Ne.symm n4]; refine hKK _ ?_; clear hKK KK)
  refine PL.pe rfl (PE.store (id := B0) (off := 0) (ver := (H B0).ver + 1) (k := 4) (ag := true) (cs := [.u (.slice none 0 0), .u (.slice none 0 0), B false, I 0]) (bd := .box 83 [.u (.slice none 0 0), .u (.slice none 0 0), B false, I 0]) rfl (by simp [go_sem]) (by simp [go_sem]) (by simp [go_sem, e0, e1, Ne.symm n1, Ne.symm n2]) (by simp [go_sem]) (by simp [go_sem, okC, hla, hlb, hlc, hld]) (by simp [go_sem]) (by simp) (by simp [go_sem, e0, e1, Ne.symm n1, Ne.symm n2]) ?_)
  refine PL.done hK ?_; clear hK
  refine PC.ret ?_
  refine ⟨.inr rfl, .agg [a, b, c, d], ?_, rfl, ?_, ?_, fun j hj h1 h2 => ?_⟩
  · simp [resP, resP1, Try.results89, go_sem, e0, e1, storeB, setMany_all, Ne.symm n1, Ne.symm n2]
  · simp [go_sem, hs, n1, n2, n3, n4, hst, storeB, setMany_all]
  · simp [go_sem, ht, n1, n2, n3, n4, hts, hd2]
  · have j1 : j ≠ B0 := by omega
    have j2 : j ≠ B0 + 1 := by omega
    simp [go_sem, j1, j2, h1, h2]
end Go.Proofs.Ytficeeaaaijgcaa
