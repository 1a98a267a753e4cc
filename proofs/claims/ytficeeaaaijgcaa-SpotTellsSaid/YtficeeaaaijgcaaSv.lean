/-
  The package spot over pure values: over.
-/
import Derived.Test.YtficeeaaaijgcaaSu
namespace Go.Proofs.Ytficeeaaaijgcaa
open Go Go.RowKit L
set_option linter.unusedVariables false
set_option linter.unusedSimpArgs false

theorem step1 (S : SM) (x : Rx) (e : x.kind = 1) : stepS S x = ⟨S.sets ++ [x], S.fol ++ [[]], ⟨[(S.sets.length : Int)], [(S.sets.length : Int)], false, 1⟩ :: S.st⟩ := by unfold stepS; rw [if_pos e]
theorem step3 (S : SM) (x : Rx) (b a : Pt) (r : List Pt) (hs : S.st = b :: a :: r) (e : x.kind = 3) : stepS S x = ⟨S.sets, a.last.foldl (updF b.first) S.fol, ⟨pickU a.free a.first b.first a.first, pickU b.free a.last b.last b.last, a.free && b.free, a.n + b.n⟩ :: r⟩ := by
  unfold stepS
  rw [if_neg (by omega), if_neg (by omega), if_pos e, hs]
theorem step4 (S : SM) (x : Rx) (b a : Pt) (r : List Pt) (hs : S.st = b :: a :: r) (e : x.kind = 4) : stepS S x = ⟨S.sets, S.fol, ⟨riseL (a.first ++ b.first), riseL (a.last ++ b.last), a.free || b.free, a.n + b.n⟩ :: r⟩ := by
  unfold stepS
  rw [if_neg (by omega), if_neg (by omega), if_neg (by omega), if_pos e, hs]
theorem step2 (S : SM) (x : Rx) (e : x.kind = 2) : stepS S x = ⟨S.sets, S.fol, ⟨[], [], true, 0⟩ :: S.st⟩ := by unfold stepS; rw [if_neg (by omega), if_pos e]
theorem step5 (S : SM) (x : Rx) (a : Pt) (r : List Pt) (hs : S.st = a :: r) (e : x.kind = 5 ∨ x.kind = 6 ∨ x.kind = 7) : stepS S x = ⟨S.sets, if x.kind = 7 then S.fol else a.last.foldl (updF a.first) S.fol, ⟨a.first, a.last, a.free || decide (x.kind ≠ 6), a.n⟩ :: r⟩ := by
  unfold stepS
  rw [if_neg (by omega), if_neg (by omega), if_neg (by omega), if_neg (by omega), hs]

theorem stepS_st (s : SM) (x : Rx) : (stepS s x).st.length ≤ s.st.length + 1 := by
  obtain ⟨sets, fol, st⟩ := s
  unfold stepS
  split
  · simp
  split
  · simp
  split
  · split <;> simp_all <;> omega
  split
  · split <;> simp_all <;> omega
  split <;> simp_all
theorem runS_stl (l : List Rx) (k : Nat) (hk : k ≤ l.length) : (runS (l.take k)).st.length ≤ k := by
  induction k with
  | zero => simp [runS]
  | succ k ih =>
    rw [runS_succ l k hk]
    have := stepS_st (runS (l.take k)) l[k]
    have := ih (by omega)
    omega

def popV (v1 : Nat) : PV := .fn (.func 89) [] [.pp 1 0 v1]
def FrO (F : PFrame) (l : List Rx) (vx v1 k : Nat) : Prop := F 0 = slX l ∧ F 3 = .pp 0 0 vx ∧ F 4 = .pp 1 0 v1 ∧ F 5 = popV v1 ∧ F 18 = slX l ∧ F 19 = I l.length ∧ F 20 = I k
/-- behind the switch: the new part, the stack below it -/
def MidO (l : List Rx) (vx v1 k : Nat) (S : SM) (F : PFrame) (H : PHeap) : Prop :=
  FrO F l vx v1 k ∧ ∃ v8 p st a b, F 8 = .pp 6 0 v8 ∧ S.st = p :: st ∧ H 6 = ⟨v8, some (.box 83 [a, b, B p.free, I p.n])⟩ ∧ isL a p.first ∧ isL b p.last ∧ OvH H vx v1 S.sets S.fol st

set_option maxRecDepth 20000 in
set_option maxHeartbeats 4000000 in
theorem over_in (l : List Rx) (H : PHeap) (hl : checkL l = 0) :
    PIn Try.prog 59 [slX l] H (fun q H' => ∃ vx vs vf fc a b p, q = .pp 0 0 vx ∧ (runS l).st = [p] ∧ H' 0 = ⟨vx, some (.box 85 [rowV (runS l).sets.length 3 vs, rowV (runS l).sets.length 4 vf, a, b, B p.free, I p.n])⟩ ∧ RowAt H' 28 4 (runS l).sets.length 3 vs (setCs (runS l).sets) ∧
      RowAt H' 30 1 (runS l).sets.length 4 vf fc ∧ FolAt fc (runS l).fol ∧ isL a p.first ∧ isL b p.last) := by
  have hl512 := checkL_len hl
  have nX : NoP (slX l) := .sl _ _ fun c hc => by obtain ⟨z, _, rfl⟩ := List.mem_map.1 hc; exact .agg _ (fun c hc => by simp at hc; rcases hc with rfl | rfl | rfl | rfl | rfl <;> exact .u _)
  refine PIn.intro Try.func59 rfl Try.ntmps59 (by simp) (by kernel_rfl) fun W => ?_
  refine PC.seq fun K hK => ?_
  refine PC.region ?_
  repeat (refine PL.k rfl fun KK hKK => ?_; simp [go_sem, stepK]; refine hKK _ ?_; clear hKK KK)
  refine PL.done hK ?_; clear hK
  refine PC.seq fun K hK => ?_
  refine PC.seq fun K2 hK2 => ?_
  refine PC.region ?_
  repeat (refine PL.k rfl fun KK hKK => ?_; simp [go_sem, stepK]; refine hKK _ ?_; clear hKK KK)
  refine PL.call (qs := [slX l]) rfl rfl (by kernel_rfl) (rxCheck_ok l) (by simp [go_sem]) (by simp [go_sem]) ?_ ?_
  · simp [go_sem, nX, View.noP]
  repeat (refine PL.k rfl fun KK hKK => ?_; simp [go_sem, stepK, hl]; refine hKK _ ?_; clear hKK KK)
  refine PL.done hK2 ?_; clear hK2
  refine PC.condF (by simp [go_sem]) ?_
  refine PC.skip (hK _ _ ?_); clear hK
  refine PC.seq fun K hK => ?_
  refine PC.region ?_
  repeat (refine PL.k rfl fun KK hKK => ?_; simp [go_sem, stepK]; refine hKK _ ?_; clear hKK KK)
  refine PL.boxA 0 (d := 16) rfl rfl rfl (by simp) (v := .agg [.u (.slice none 0 0), .u (.slice none 0 0), .u (.slice none 0 0), .u (.slice none 0 0), B false, I 0]) (by simp [go_sem]) rfl rfl fun vx H1 b1 o1 => ?_
  repeat (refine PL.k rfl fun KK hKK => ?_; simp [go_sem, stepK]; refine hKK _ ?_; clear hKK KK)
  refine PL.done hK ?_; clear hK
  refine PC.seq fun K hK => ?_
  refine PC.region ?_
  refine PL.allocA 1 (d := 4) rfl rfl rfl (by simp) zeroC_115 rfl rfl fun v1 H2 b2 o2 => ?_
  refine PL.done hK ?_; clear hK
  refine PC.seq fun K hK => ?_
  refine PC.region ?_
  repeat (refine PL.k rfl fun KK hKK => ?_; simp [go_sem, stepK]; refine hKK _ ?_; clear hKK KK)
  refine PL.done hK ?_; clear hK
  have hov : OvH H2 vx v1 [] [] [] := ⟨0, 0, [], .u (.slice none 0 0), [], (o2 0 (by decide)).trans b1, ⟨rfl, fun h => absurd rfl h⟩, ⟨rfl, fun h => absurd rfl h⟩, ⟨rfl, fun i p l h => by simp at h⟩, b2, .inl ⟨rfl, rfl⟩, rfl⟩
  have hlen : ∀ H, lenP Try.prog H 22 (slX l) = some (I l.length) := fun H => by simp [slX, go_sem]
  refine PC.seqM (fun F H' => FrO F l vx v1 l.length ∧ OvH H' vx v1 (runS l).sets (runS l).fol (runS l).st ∧ checkLoop [] (runS l).st.length = 0) ?_ ?_
  · refine PC.seq fun K hK => ?_
    refine PC.region ?_
    repeat (refine PL.k rfl fun KK hKK => ?_; simp [go_sem, stepK, hlen]; refine hKK _ ?_; clear hKK KK)
    refine PL.done hK ?_; clear hK
    refine PC.block ?_
    refine PC.loop (fun m F H' => ∃ k : Nat, k ≤ l.length ∧ m = l.length - k ∧ FrO F l vx v1 k ∧ OvH H' vx v1 (runS (l.take k)).sets (runS (l.take k)).fol (runS (l.take k)).st ∧ checkLoop (l.drop k) (runS (l.take k)).st.length = 0) (m := l.length) ⟨0, by omega, by omega, by simp [FrO, go_sem, popV], hov, ?_⟩ fun m F H' hI => ?_
    · unfold checkL at hl
      rw [if_neg (by omega)] at hl
      simpa [runS] using hl
    obtain ⟨k, hk, hm, ⟨f0, f3, f4, f5, f18, f19, f20⟩, hov, hchk⟩ := hI
    by_cases hlt : k < l.length
    · obtain ⟨hok, hok2⟩ := runS_ok l k hk
      have hsucc := runS_succ l k hlt
      rw [drop_cons l k hlt] at hchk
      obtain ⟨hkind, -⟩ := chk_step hchk
      obtain ⟨hnext, htwo, hone⟩ := chk_next hchk
      rw [← hsucc] at hnext
      generalize hS : runS (l.take k) = S at *
      refine PC.seq fun K2 hK2 => ?_
      refine PC.region ?_
      repeat (refine PL.k rfl fun KK hKK => ?_; simp [go_sem, stepK, f20, f19]; refine hKK _ ?_; clear hKK KK)
      refine PL.done hK2 ?_; clear hK2
      refine PC.seq fun K2 hK2 => ?_
      refine PC.condT (by simp [go_sem, hlt]) ?_
      refine PC.skip (hK2 _ _ ?_); clear hK2
      refine PC.seqM (fun F H' => FrO F l vx v1 k ∧ OvH H' vx v1 (stepS S l[k]).sets (stepS S l[k]).fol (stepS S l[k]).st) ?_ ?_
      · refine PC.block ?_
        refine PC.seq fun K2 hK2 => ?_
        refine PC.region ?_
        have h18 : F 18 = .sl 5 (l.map encX) := f18
        have hkm : k < (l.map encX).length := by simpa using hlt
        repeat (refine PL.k rfl fun KK hKK => ?_; simp [go_sem, stepK, h18, f20, hlt, hkm]; refine hKK _ ?_; clear hKK KK)
        refine PL.allocA 5 (d := 7) rfl rfl rfl (by simp) zeroC_88 rfl rfl fun v7 H3 b3 o3 => ?_
        refine PL.storeA (id := 5) rfl rfl (by simp [dstOk]) (by simp [go_sem]; rfl) b3 asz_88 (v := encX l[k]) (by simp [go_sem]; rfl) (by simp [go_sem, encX, W64]) rfl rfl (by simp) (cs' := [I l[k].kind, W64 l[k].s0, W64 l[k].s1, W64 l[k].s2, W64 l[k].s3]) rfl fun H4 b4 o4 => ?_
        refine PL.done hK2 ?_; clear hK2
        refine PC.seq fun K2 hK2 => ?_
        refine PC.region ?_
        refine PL.allocA 6 (d := 8) rfl rfl rfl (by simp) zeroC_83 rfl rfl fun v8 H5 b5 o5 => ?_
        have b45 := (o5 5 (by decide)).trans b4
        have hov5 : OvH H5 vx v1 S.sets S.fol S.st := hov.mono fun j hj => by rw [o5 j (by omega), o4 j (by omega), o3 j (by omega)]
        refine PL.done hK2 ?_; clear hK2
        refine PC.seqM (MidO l vx v1 k (stepS S l[k])) ?_ ?_
        · rcases hkind with e | e | e | e | e | e | e
          · rw [e] at b45
            refine PC.seq fun K2 hK2 => ?_
            refine PC.region ?_
            repeat (refine PL.k rfl fun KK hKK => ?_; simp [go_sem, stepK, b45]; refine hKK _ ?_; clear hKK KK)
            refine PL.done hK2 ?_; clear hK2
            refine PC.block ?_
            refine PC.seq fun K2 hK2 => ?_
            refine PC.region ?_
            repeat (refine PL.k rfl fun KK hKK => ?_; simp [go_sem, stepK]; refine hKK _ ?_; clear hKK KK)
            refine PL.done hK2 ?_; clear hK2
            refine PC.condT (by simp [go_sem]) ?_
            refine PC.region ?_
            repeat (refine PL.k rfl fun KK hKK => ?_; simp [go_sem, stepK, f3, b45]; refine hKK _ ?_; clear hKK KK)
            refine PL.inl rfl rfl (set_ov l[k] hov5 (by omega)) (by simp [go_sem]) (by simp [target, go_sem]; rfl) ?_
            rintro q H6 ⟨rfl, hov6, o6⟩
            have b6 := (o6 6 (by decide) (by decide)).trans b5
            refine PL.storeA (id := 6) rfl rfl (by simp [dstOk]) (by simp [go_sem]; rfl) b6 asz_83 (v := .agg [slI [(S.sets.length : Int)], slI [(S.sets.length : Int)], B false, I 1]) (by simp [go_sem]) (by simp [go_sem, slI]) rfl rfl (by simp) (cs' := [slI [(S.sets.length : Int)], slI [(S.sets.length : Int)], B false, I 1]) rfl fun H7 b7 o7 => ?_
            rw [step1 _ _ e]
            exact PL.nil ⟨by simp [FrO, go_sem, f0, f3, f4, f5, f18, f19, f20], v8, _, S.st, slI [(S.sets.length : Int)], slI [(S.sets.length : Int)], by simp [go_sem], rfl, b7, isL_sl _, isL_sl _, hov6.mono fun j hj => o7 j (by omega)⟩
          · rw [e] at b45
            refine PC.seq fun K2 hK2 => ?_
            refine PC.region ?_
            repeat (refine PL.k rfl fun KK hKK => ?_; simp [go_sem, stepK, b45]; refine hKK _ ?_; clear hKK KK)
            refine PL.done hK2 ?_; clear hK2
            refine PC.block ?_
            refine PC.seq fun K2 hK2 => ?_
            refine PC.region ?_
            repeat (refine PL.k rfl fun KK hKK => ?_; simp [go_sem, stepK]; refine hKK _ ?_; clear hKK KK)
            refine PL.done hK2 ?_; clear hK2
            refine PC.condF (by simp [go_sem]) ?_
            refine PC.seq fun K2 hK2 => ?_
            refine PC.region ?_
            repeat (refine PL.k rfl fun KK hKK => ?_; simp [go_sem, stepK]; refine hKK _ ?_; clear hKK KK)
            refine PL.done hK2 ?_; clear hK2
            refine PC.condT (by simp [go_sem]) ?_
            refine PC.region ?_
            repeat (refine PL.k rfl fun KK hKK => ?_; simp [go_sem, stepK, b5]; refine hKK _ ?_; clear hKK KK)
            refine PL.storeA (id := 6) rfl rfl (by simp [dstOk]) (by simp [go_sem]; rfl) b5 asz_4 (v := B true) (by simp [go_sem]) (by simp [go_sem]) rfl rfl (by simp) (cs' := [.u (.slice none 0 0), .u (.slice none 0 0), B true, I 0]) rfl fun H7 b7 o7 => ?_
            rw [step2 _ _ e]
            exact PL.nil ⟨by simp [FrO, go_sem, f0, f3, f4, f5, f18, f19, f20], v8, _, S.st, .u (.slice none 0 0), .u (.slice none 0 0), by simp [go_sem], rfl, b7, .inr ⟨rfl, rfl⟩, .inr ⟨rfl, rfl⟩, hov5.mono fun j hj => o7 j (by omega)⟩
          · rw [e] at b45
            refine PC.seq fun K2 hK2 => ?_
            refine PC.region ?_
            repeat (refine PL.k rfl fun KK hKK => ?_; simp [go_sem, stepK, b45]; refine hKK _ ?_; clear hKK KK)
            refine PL.done hK2 ?_; clear hK2
            refine PC.block ?_
            refine PC.seq fun K2 hK2 => ?_
            refine PC.region ?_
            repeat (refine PL.k rfl fun KK hKK => ?_; simp [go_sem, stepK]; refine hKK _ ?_; clear hKK KK)
            refine PL.done hK2 ?_; clear hK2
            refine PC.condF (by simp [go_sem]) ?_
            refine PC.seq fun K2 hK2 => ?_
            refine PC.region ?_
            repeat (refine PL.k rfl fun KK hKK => ?_; simp [go_sem, stepK]; refine hKK _ ?_; clear hKK KK)
            refine PL.done hK2 ?_; clear hK2
            refine PC.condF (by simp [go_sem]) ?_
            refine PC.seq fun K2 hK2 => ?_
            refine PC.region ?_
            repeat (refine PL.k rfl fun KK hKK => ?_; simp [go_sem, stepK]; refine hKK _ ?_; clear hKK KK)
            refine PL.done hK2 ?_; clear hK2
            refine PC.condT (by simp [go_sem]) ?_
            obtain ⟨pb, pa, st, hst⟩ := htwo (.inl e)
            rw [hst] at hov5
            have hpb := hok.pts pb (by rw [hst]; simp)
            have hpa := hok.pts pa (by rw [hst]; simp)
            have hsum : pa.n + pb.n ≤ S.sets.length := by
              have h1 := hok.sum
              rw [hst] at h1
              simp only [sumN] at h1
              have h2 := sumN_nonneg S.sets.length st (fun p hp => hok.pts p (by rw [hst]; simp [hp]))
              omega
            have hstl : st.length ≤ 510 := by
              have := runS_stl l k hk
              rw [hS, hst] at this
              simp at this
              omega
            refine PC.seq fun K2 hK2 => ?_
            refine PC.region ?_
            repeat (refine PL.k rfl fun KK hKK => ?_; simp [go_sem, stepK, f5]; refine hKK _ ?_; clear hKK KK)
            refine PL.inl rfl rfl (pop_ov hov5 (by simp; omega)) (by simp [go_sem]) (by simp [target, go_sem, popV]) ?_
            rintro q H6 ⟨b1', b2', rfl, hb1, hb2, hov6, o6⟩
            have b56 := (o6 6 (by decide) (by decide)).trans b5
            refine PL.allocA 7 (d := 9) rfl rfl rfl (by simp) zeroC_83 rfl rfl fun v9 H7 b7 o7 => ?_
            refine PL.storeA (id := 7) rfl rfl (by simp [dstOk]) (by simp [go_sem]; rfl) b7 asz_83 (v := .agg [b1', b2', B pb.free, I pb.n]) (by simp [go_sem]) (by simp [okC, hb1.leaf, hb2.leaf, leafB, leafI]) rfl rfl (by simp) (cs' := [b1', b2', B pb.free, I pb.n]) rfl fun H8 b8 o8 => ?_
            have b58 := (o8 6 (by decide)).trans ((o7 6 (by decide)).trans b56)
            have hov8 := hov6.mono (H' := H8) fun j hj => by rw [o8 j (by omega), o7 j (by omega)]
            refine PL.done hK2 ?_; clear hK2
            refine PC.regionMA 2 mixed (by simp) (by kernel_rfl) (by kernel_rfl) (by simp [dstOk]) ?_
            simp only [List.take_succ_cons, List.take_zero, movesF, moveOf, List.foldl_cons, List.foldl_nil]
            refine PA.two (i := 2) (i' := 3) (by kernel_rfl) rfl rfl rfl rfl ?_ ?_
            · refine PE.inl (pop_ov hov8 (by omega)) (by simp [go_sem]) rfl (by simp [target, go_sem, popV, evP, f5]) ?_
              rintro q H9 ⟨a1, a2, rfl, ha1, ha2, hov9, o9⟩
              refine PA.one (i := 3) (by kernel_rfl) rfl rfl ?_
              refine PE.k (p := .agg [b1', b2', B pb.free, I pb.n]) (by simp [dstOk]) (by simp [go_sem, (o9 7 (by decide) (by decide)).trans b8]) ?_
              refine PA.one (i := 4) (by kernel_rfl) rfl rfl ?_
              refine PE.inl (cat_ov pa pb hov9 (by omega) hok.len hok.fol hpa hpb hsum ha1 ha2 hb1 hb2) (by simp [go_sem]) rfl (by simp [target, go_sem, evP, f3]) ?_
              rintro q H10 ⟨f', l', rfl, hf', hl', hov10, o10⟩
              have b510 := (o10 6 (by decide) (by decide)).trans ((o9 6 (by decide) (by decide)).trans b58)
              refine PA.one (i := 5) (by kernel_rfl) rfl rfl ?_
              refine PE.storeA (id := 6) rfl (by simp [dstOk]) (by simp [go_sem]; rfl) b510 asz_83 (v := .agg [f', l', B (pa.free && pb.free), I (pa.n + pb.n)]) (by simp [go_sem]) (by simp [okC, hf'.leaf, hl'.leaf, leafB, leafI]) rfl rfl (by simp) (cs' := [f', l', B (pa.free && pb.free), I (pa.n + pb.n)]) rfl fun H11 b11 o11 => ?_
              rw [step3 S _ pb pa st hst e]
              exact PA.done (by kernel_rfl) ⟨by simp [FrO, go_sem, f0, f3, f4, f5, f18, f19, f20], v8, _, st, f', l', by simp [go_sem], rfl, b11, hf', hl', hov10.mono fun j hj => o11 j (by omega)⟩
            · refine PE.k (p := .agg [b1', b2', B pb.free, I pb.n]) (by simp [dstOk]) (by simp [go_sem, b8]) ?_
              refine PA.one (i := 2) (by kernel_rfl) rfl rfl ?_
              refine PE.inl (pop_ov hov8 (by omega)) (by simp [go_sem]) rfl (by simp [target, go_sem, popV, evP, f5]) ?_
              rintro q H9 ⟨a1, a2, rfl, ha1, ha2, hov9, o9⟩
              refine PA.one (i := 4) (by kernel_rfl) rfl rfl ?_
              refine PE.inl (cat_ov pa pb hov9 (by omega) hok.len hok.fol hpa hpb hsum ha1 ha2 hb1 hb2) (by simp [go_sem]) rfl (by simp [target, go_sem, evP, f3]) ?_
              rintro q H10 ⟨f', l', rfl, hf', hl', hov10, o10⟩
              have b510 := (o10 6 (by decide) (by decide)).trans ((o9 6 (by decide) (by decide)).trans b58)
              refine PA.one (i := 5) (by kernel_rfl) rfl rfl ?_
              refine PE.storeA (id := 6) rfl (by simp [dstOk]) (by simp [go_sem]; rfl) b510 asz_83 (v := .agg [f', l', B (pa.free && pb.free), I (pa.n + pb.n)]) (by simp [go_sem]) (by simp [okC, hf'.leaf, hl'.leaf, leafB, leafI]) rfl rfl (by simp) (cs' := [f', l', B (pa.free && pb.free), I (pa.n + pb.n)]) rfl fun H11 b11 o11 => ?_
              rw [step3 S _ pb pa st hst e]
              exact PA.done (by kernel_rfl) ⟨by simp [FrO, go_sem, f0, f3, f4, f5, f18, f19, f20], v8, _, st, f', l', by simp [go_sem], rfl, b11, hf', hl', hov10.mono fun j hj => o11 j (by omega)⟩
          · rw [e] at b45
            refine PC.seq fun K2 hK2 => ?_
            refine PC.region ?_
            repeat (refine PL.k rfl fun KK hKK => ?_; simp [go_sem, stepK, b45]; refine hKK _ ?_; clear hKK KK)
            refine PL.done hK2 ?_; clear hK2
            refine PC.block ?_
            refine PC.seq fun K2 hK2 => ?_
            refine PC.region ?_
            repeat (refine PL.k rfl fun KK hKK => ?_; simp [go_sem, stepK]; refine hKK _ ?_; clear hKK KK)
            refine PL.done hK2 ?_; clear hK2
            refine PC.condF (by simp [go_sem]) ?_
            refine PC.seq fun K2 hK2 => ?_
            refine PC.region ?_
            repeat (refine PL.k rfl fun KK hKK => ?_; simp [go_sem, stepK]; refine hKK _ ?_; clear hKK KK)
            refine PL.done hK2 ?_; clear hK2
            refine PC.condF (by simp [go_sem]) ?_
            refine PC.seq fun K2 hK2 => ?_
            refine PC.region ?_
            repeat (refine PL.k rfl fun KK hKK => ?_; simp [go_sem, stepK]; refine hKK _ ?_; clear hKK KK)
            refine PL.done hK2 ?_; clear hK2
            refine PC.condF (by simp [go_sem]) ?_
            refine PC.seq fun K2 hK2 => ?_
            refine PC.region ?_
            repeat (refine PL.k rfl fun KK hKK => ?_; simp [go_sem, stepK]; refine hKK _ ?_; clear hKK KK)
            refine PL.done hK2 ?_; clear hK2
            refine PC.condT (by simp [go_sem]) ?_
            obtain ⟨pb, pa, st, hst⟩ := htwo (.inr e)
            rw [hst] at hov5
            have hpb := hok.pts pb (by rw [hst]; simp)
            have hpa := hok.pts pa (by rw [hst]; simp)
            have hsum : pa.n + pb.n ≤ S.sets.length := by
              have h1 := hok.sum
              rw [hst] at h1
              simp only [sumN] at h1
              have h2 := sumN_nonneg S.sets.length st (fun p hp => hok.pts p (by rw [hst]; simp [hp]))
              omega
            have hstl : st.length ≤ 510 := by
              have := runS_stl l k hk
              rw [hS, hst] at this
              simp at this
              omega
            have lpt : ∀ (p : Pt), PtOk S.sets.length p → p.first.length ≤ 1000 ∧ p.last.length ≤ 1000 := fun p hp => by
              have h1 := rising_le _ hp.1.1 _ hp.1.2
              have h2 := rising_le _ hp.2.1.1 _ hp.2.1.2
              omega
            have la := lpt pa hpa
            have lb := lpt pb hpb
            have na := hpa.2.2
            have nb := hpb.2.2
            refine PC.seq fun K2 hK2 => ?_
            refine PC.region ?_
            repeat (refine PL.k rfl fun KK hKK => ?_; simp [go_sem, stepK, f5]; refine hKK _ ?_; clear hKK KK)
            refine PL.inl rfl rfl (pop_ov hov5 (by simp; omega)) (by simp [go_sem]) (by simp [target, go_sem, popV]) ?_
            rintro q H6 ⟨b1', b2', rfl, hb1, hb2, hov6, o6⟩
            have b56 := (o6 6 (by decide) (by decide)).trans b5
            repeat (refine PL.k rfl fun KK hKK => ?_; simp [go_sem, stepK, f5]; refine hKK _ ?_; clear hKK KK)
            refine PL.inl rfl rfl (pop_ov hov6 (by omega)) (by simp [go_sem]) (by simp [target, go_sem, popV]) ?_
            rintro q H6' ⟨a1', a2', rfl, ha1, ha2, hov6', o6'⟩
            have b56' := (o6' 6 (by decide) (by decide)).trans b56
            refine PL.allocA 8 (d := 10) rfl rfl rfl (by simp) zeroC_83 rfl rfl fun v10 H7 b7 o7 => ?_
            refine PL.allocA 9 (d := 11) rfl rfl rfl (by simp) zeroC_83 rfl rfl fun v11 H8 b8 o8 => ?_
            refine PL.storeA (id := 8) rfl rfl (by simp [dstOk]) (by simp [go_sem]; rfl) ((o8 8 (by decide)).trans b7) asz_83 (v := .agg [b1', b2', B pb.free, I pb.n]) (by simp [go_sem]) (by simp [okC, hb1.leaf, hb2.leaf, leafB, leafI]) rfl rfl (by simp) (cs' := [b1', b2', B pb.free, I pb.n]) rfl fun H9 b9 o9 => ?_
            refine PL.storeA (id := 9) rfl rfl (by simp [dstOk]) (by simp [go_sem]; rfl) ((o9 9 (by decide)).trans b8) asz_83 (v := .agg [a1', a2', B pa.free, I pa.n]) (by simp [go_sem]) (by simp [okC, ha1.leaf, ha2.leaf, leafB, leafI]) rfl rfl (by simp) (cs' := [a1', a2', B pa.free, I pa.n]) rfl fun H10 b10 o10 => ?_
            have b9' := (o10 8 (by decide)).trans b9
            have b510 : H10 6 = _ := (o10 6 (by decide)).trans ((o9 6 (by decide)).trans ((o8 6 (by decide)).trans ((o7 6 (by decide)).trans b56')))
            have hov10 := hov6'.mono (H' := H10) fun j hj => by rw [o10 j (by omega), o9 j (by omega), o8 j (by omega), o7 j (by omega)]
            refine PL.done hK2 ?_; clear hK2
            have hA : ∀ (t : Nat) (x y : Operand), binP Try.prog .add t x y (I pa.n) (I pb.n) = some (I (pa.n + pb.n)) := fun t x y => binP_add (by omega) (by omega)
            refine PC.regionT 29 mixed (by kernel_rfl) ?_
            simp only [List.take_succ_cons, List.take_zero, List.drop_succ_cons, List.drop_zero]
            repeat (refine QF.k rfl fun KK hKK => ?_; simp [go_sem, stepK, b9', b10]; refine hKK _ ?_; clear hKK KK)
            refine QF.callB (qs := [slI pa.first, slI pb.first]) rfl rfl (by kernel_rfl) (union_ok _ _ (by omega)) (by simp [go_sem]) ?_ ?_ ?_
            · simp [go_sem, ha1.noP, hb1.noP]
            · simp [go_sem, ha1.view, hb1.view]
            repeat (refine QF.k rfl fun KK hKK => ?_; simp [go_sem, stepK, b9', b10]; refine hKK _ ?_; clear hKK KK)
            refine QF.callB (qs := [slI pa.last, slI pb.last]) rfl rfl (by kernel_rfl) (union_ok _ _ (by omega)) (by simp [go_sem]) ?_ ?_ ?_
            · simp [go_sem, ha2.noP, hb2.noP]
            · simp [go_sem, ha2.view, hb2.view]
            repeat (refine QF.k rfl fun KK hKK => ?_; simp [go_sem, stepK, b9', b10]; refine hKK _ ?_; clear hKK KK)
            cases ha : pa.free
            · rw [ha] at b10
              repeat (refine QF.g rfl rfl fun KK hKK => ?_; simp (disch := omega) [go_sem, L.stepG, b9', b10]; refine hKK _ ?_; clear hKK KK)
              repeat (refine QF.k rfl fun KK hKK => ?_; simp [go_sem, stepK, b9', b10, hA]; refine hKK _ ?_; clear hKK KK)
              refine QF.nil ?_
              refine PL.storeA (id := 6) rfl rfl (by simp [dstOk]) (by simp [go_sem]; rfl) b510 asz_83 (v := .agg [slI (riseL (pa.first ++ pb.first)), slI (riseL (pa.last ++ pb.last)), B (false || pb.free), I (pa.n + pb.n)]) (by simp [go_sem]) (by simp [okC, leafB, leafI]; exact ⟨rfl, rfl⟩) rfl rfl (by simp) (cs' := [slI (riseL (pa.first ++ pb.first)), slI (riseL (pa.last ++ pb.last)), B (false || pb.free), I (pa.n + pb.n)]) rfl fun H11 b11 o11 => ?_
              rw [step4 S _ pb pa st hst e]
              exact PL.nil ⟨by simp [FrO, go_sem, f0, f3, f4, f5, f18, f19, f20], v8, _, st, slI (riseL (pa.first ++ pb.first)), slI (riseL (pa.last ++ pb.last)), by simp [go_sem], rfl, by rw [b11, ha], isL_sl _, isL_sl _, hov10.mono fun j hj => o11 j (by omega)⟩
            · rw [ha] at b10
              repeat (refine QF.g rfl rfl fun KK hKK => ?_; simp (disch := omega) [go_sem, L.stepG, b9', b10]; refine hKK _ ?_; clear hKK KK)
              repeat (refine QF.k rfl fun KK hKK => ?_; simp [go_sem, stepK, b9', b10, hA]; refine hKK _ ?_; clear hKK KK)
              refine QF.nil ?_
              refine PL.storeA (id := 6) rfl rfl (by simp [dstOk]) (by simp [go_sem]; rfl) b510 asz_83 (v := .agg [slI (riseL (pa.first ++ pb.first)), slI (riseL (pa.last ++ pb.last)), B (true || pb.free), I (pa.n + pb.n)]) (by simp [go_sem]) (by simp [okC, leafB, leafI]; exact ⟨rfl, rfl⟩) rfl rfl (by simp) (cs' := [slI (riseL (pa.first ++ pb.first)), slI (riseL (pa.last ++ pb.last)), B (true || pb.free), I (pa.n + pb.n)]) rfl fun H11 b11 o11 => ?_
              rw [step4 S _ pb pa st hst e]
              exact PL.nil ⟨by simp [FrO, go_sem, f0, f3, f4, f5, f18, f19, f20], v8, _, st, slI (riseL (pa.first ++ pb.first)), slI (riseL (pa.last ++ pb.last)), by simp [go_sem], rfl, by rw [b11, ha], isL_sl _, isL_sl _, hov10.mono fun j hj => o11 j (by omega)⟩
          · rw [e] at b45
            refine PC.seq fun K2 hK2 => ?_
            refine PC.region ?_
            repeat (refine PL.k rfl fun KK hKK => ?_; simp [go_sem, stepK, b45]; refine hKK _ ?_; clear hKK KK)
            refine PL.done hK2 ?_; clear hK2
            refine PC.block ?_
            refine PC.seq fun K2 hK2 => ?_
            refine PC.region ?_
            repeat (refine PL.k rfl fun KK hKK => ?_; simp [go_sem, stepK]; refine hKK _ ?_; clear hKK KK)
            refine PL.done hK2 ?_; clear hK2
            refine PC.condF (by simp [go_sem]) ?_
            refine PC.seq fun K2 hK2 => ?_
            refine PC.region ?_
            repeat (refine PL.k rfl fun KK hKK => ?_; simp [go_sem, stepK]; refine hKK _ ?_; clear hKK KK)
            refine PL.done hK2 ?_; clear hK2
            refine PC.condF (by simp [go_sem]) ?_
            refine PC.seq fun K2 hK2 => ?_
            refine PC.region ?_
            repeat (refine PL.k rfl fun KK hKK => ?_; simp [go_sem, stepK]; refine hKK _ ?_; clear hKK KK)
            refine PL.done hK2 ?_; clear hK2
            refine PC.condF (by simp [go_sem]) ?_
            refine PC.seq fun K2 hK2 => ?_
            refine PC.region ?_
            repeat (refine PL.k rfl fun KK hKK => ?_; simp [go_sem, stepK]; refine hKK _ ?_; clear hKK KK)
            refine PL.done hK2 ?_; clear hK2
            refine PC.condF (by simp [go_sem]) ?_
            obtain ⟨pa, st, hst⟩ := hone (.inl e)
            rw [hst] at hov5
            have hpa := hok.pts pa (by rw [hst]; simp)
            have hstl : st.length ≤ 511 := by
              have := runS_stl l k hk
              rw [hS, hst] at this
              simp at this
              omega
            refine PC.seq fun K2 hK2 => ?_
            refine PC.region ?_
            repeat (refine PL.k rfl fun KK hKK => ?_; simp [go_sem, stepK, f5]; refine hKK _ ?_; clear hKK KK)
            refine PL.inl rfl rfl (pop_ov hov5 (by omega)) (by simp [go_sem]) (by simp [target, go_sem, popV]) ?_
            rintro q H6 ⟨a1, a2, rfl, ha1, ha2, hov6, o6⟩
            have b56 := (o6 6 (by decide) (by decide)).trans b5
            have b46 := (o6 5 (by decide) (by decide)).trans b45
            refine PL.storeA (id := 6) rfl rfl (by simp [dstOk]) (by simp [go_sem]; rfl) b56 asz_83 (v := .agg [a1, a2, B pa.free, I pa.n]) (by simp [go_sem]) (by simp [okC, ha1.leaf, ha2.leaf, leafB, leafI]) rfl rfl (by simp) (cs' := [a1, a2, B pa.free, I pa.n]) rfl fun H7 b7 o7 => ?_
            have b47 := (o7 5 (by decide)).trans b46
            have hov7 := hov6.mono (H' := H7) fun j hj => o7 j (by omega)
            refine PL.done hK2 ?_; clear hK2
            refine PC.seq fun K2 hK2 => ?_
            refine PC.seq fun K3 hK3 => ?_
            refine PC.region ?_
            repeat (refine PL.k rfl fun KK hKK => ?_; simp [go_sem, stepK, b47]; refine hKK _ ?_; clear hKK KK)
            refine PL.done hK3 ?_; clear hK3
            refine PC.condT (by simp [go_sem]) ?_
            refine PC.region ?_
            repeat (refine PL.k rfl fun KK hKK => ?_; simp [go_sem, stepK, b7, f3]; refine hKK _ ?_; clear hKK KK)
            refine PL.inl rfl rfl (behind_ov pa.last pa.first hov7 (by omega) hok.len ha2 ha1 hok.fol hpa.1 hpa.2.1) (by simp [go_sem]) (by simp [target, go_sem]) ?_
            rintro q H8 ⟨rfl, hov8, o8⟩
            have b78 := (o8 6 (by decide)).trans b7
            have b48 := (o8 5 (by decide)).trans b47
            refine PL.done hK2 ?_; clear hK2
            refine PC.region ?_
            repeat (refine PL.k rfl fun KK hKK => ?_; simp [go_sem, stepK, b78, b48]; refine hKK _ ?_; clear hKK KK)
            cases ha : pa.free
            · rw [ha] at b78
              repeat (refine PL.g rfl rfl fun KK hKK => ?_; simp (disch := omega) [go_sem, L.stepG, b78, b48]; refine hKK _ ?_; clear hKK KK)
              repeat (refine PL.k rfl fun KK hKK => ?_; simp [go_sem, stepK, b78, b48]; refine hKK _ ?_; clear hKK KK)
              refine PL.storeA (id := 6) rfl rfl (by simp [dstOk]) (by simp [go_sem]; rfl) b78 asz_4 (v := B true) (by simp [go_sem]) (by simp [go_sem]) rfl rfl (by simp) (cs' := [a1, a2, B true, I pa.n]) rfl fun H11 b11 o11 => ?_
              rw [step5 S _ pa st hst (.inl e)]
              exact PL.nil ⟨by simp [FrO, go_sem, f0, f3, f4, f5, f18, f19, f20], v8, _, st, a1, a2, by simp [go_sem], rfl, by rw [b11, ha]; simp [e], ha1, ha2, by simp only [e]; exact hov8.mono fun j hj => o11 j (by omega)⟩
            · rw [ha] at b78
              repeat (refine PL.g rfl rfl fun KK hKK => ?_; simp (disch := omega) [go_sem, L.stepG, b78, b48]; refine hKK _ ?_; clear hKK KK)
              repeat (refine PL.k rfl fun KK hKK => ?_; simp [go_sem, stepK, b78, b48]; refine hKK _ ?_; clear hKK KK)
              refine PL.storeA (id := 6) rfl rfl (by simp [dstOk]) (by simp [go_sem]; rfl) b78 asz_4 (v := B true) (by simp [go_sem]) (by simp [go_sem]) rfl rfl (by simp) (cs' := [a1, a2, B true, I pa.n]) rfl fun H11 b11 o11 => ?_
              rw [step5 S _ pa st hst (.inl e)]
              exact PL.nil ⟨by simp [FrO, go_sem, f0, f3, f4, f5, f18, f19, f20], v8, _, st, a1, a2, by simp [go_sem], rfl, by rw [b11, ha]; simp [e], ha1, ha2, by simp only [e]; exact hov8.mono fun j hj => o11 j (by omega)⟩
          · rw [e] at b45
            refine PC.seq fun K2 hK2 => ?_
            refine PC.region ?_
            repeat (refine PL.k rfl fun KK hKK => ?_; simp [go_sem, stepK, b45]; refine hKK _ ?_; clear hKK KK)
            refine PL.done hK2 ?_; clear hK2
            refine PC.block ?_
            refine PC.seq fun K2 hK2 => ?_
            refine PC.region ?_
            repeat (refine PL.k rfl fun KK hKK => ?_; simp [go_sem, stepK]; refine hKK _ ?_; clear hKK KK)
            refine PL.done hK2 ?_; clear hK2
            refine PC.condF (by simp [go_sem]) ?_
            refine PC.seq fun K2 hK2 => ?_
            refine PC.region ?_
            repeat (refine PL.k rfl fun KK hKK => ?_; simp [go_sem, stepK]; refine hKK _ ?_; clear hKK KK)
            refine PL.done hK2 ?_; clear hK2
            refine PC.condF (by simp [go_sem]) ?_
            refine PC.seq fun K2 hK2 => ?_
            refine PC.region ?_
            repeat (refine PL.k rfl fun KK hKK => ?_; simp [go_sem, stepK]; refine hKK _ ?_; clear hKK KK)
            refine PL.done hK2 ?_; clear hK2
            refine PC.condF (by simp [go_sem]) ?_
            refine PC.seq fun K2 hK2 => ?_
            refine PC.region ?_
            repeat (refine PL.k rfl fun KK hKK => ?_; simp [go_sem, stepK]; refine hKK _ ?_; clear hKK KK)
            refine PL.done hK2 ?_; clear hK2
            refine PC.condF (by simp [go_sem]) ?_
            obtain ⟨pa, st, hst⟩ := hone (.inr (.inl e))
            rw [hst] at hov5
            have hpa := hok.pts pa (by rw [hst]; simp)
            have hstl : st.length ≤ 511 := by
              have := runS_stl l k hk
              rw [hS, hst] at this
              simp at this
              omega
            refine PC.seq fun K2 hK2 => ?_
            refine PC.region ?_
            repeat (refine PL.k rfl fun KK hKK => ?_; simp [go_sem, stepK, f5]; refine hKK _ ?_; clear hKK KK)
            refine PL.inl rfl rfl (pop_ov hov5 (by omega)) (by simp [go_sem]) (by simp [target, go_sem, popV]) ?_
            rintro q H6 ⟨a1, a2, rfl, ha1, ha2, hov6, o6⟩
            have b56 := (o6 6 (by decide) (by decide)).trans b5
            have b46 := (o6 5 (by decide) (by decide)).trans b45
            refine PL.storeA (id := 6) rfl rfl (by simp [dstOk]) (by simp [go_sem]; rfl) b56 asz_83 (v := .agg [a1, a2, B pa.free, I pa.n]) (by simp [go_sem]) (by simp [okC, ha1.leaf, ha2.leaf, leafB, leafI]) rfl rfl (by simp) (cs' := [a1, a2, B pa.free, I pa.n]) rfl fun H7 b7 o7 => ?_
            have b47 := (o7 5 (by decide)).trans b46
            have hov7 := hov6.mono (H' := H7) fun j hj => o7 j (by omega)
            refine PL.done hK2 ?_; clear hK2
            refine PC.seq fun K2 hK2 => ?_
            refine PC.seq fun K3 hK3 => ?_
            refine PC.region ?_
            repeat (refine PL.k rfl fun KK hKK => ?_; simp [go_sem, stepK, b47]; refine hKK _ ?_; clear hKK KK)
            refine PL.done hK3 ?_; clear hK3
            refine PC.condT (by simp [go_sem]) ?_
            refine PC.region ?_
            repeat (refine PL.k rfl fun KK hKK => ?_; simp [go_sem, stepK, b7, f3]; refine hKK _ ?_; clear hKK KK)
            refine PL.inl rfl rfl (behind_ov pa.last pa.first hov7 (by omega) hok.len ha2 ha1 hok.fol hpa.1 hpa.2.1) (by simp [go_sem]) (by simp [target, go_sem]) ?_
            rintro q H8 ⟨rfl, hov8, o8⟩
            have b78 := (o8 6 (by decide)).trans b7
            have b48 := (o8 5 (by decide)).trans b47
            refine PL.done hK2 ?_; clear hK2
            refine PC.region ?_
            repeat (refine PL.k rfl fun KK hKK => ?_; simp [go_sem, stepK, b78, b48]; refine hKK _ ?_; clear hKK KK)
            cases ha : pa.free
            · rw [ha] at b78
              repeat (refine PL.g rfl rfl fun KK hKK => ?_; simp (disch := omega) [go_sem, L.stepG, b78, b48]; refine hKK _ ?_; clear hKK KK)
              repeat (refine PL.k rfl fun KK hKK => ?_; simp [go_sem, stepK, b78, b48]; refine hKK _ ?_; clear hKK KK)
              refine PL.storeA (id := 6) rfl rfl (by simp [dstOk]) (by simp [go_sem]; rfl) b78 asz_4 (v := B false) (by simp [go_sem]) (by simp [go_sem]) rfl rfl (by simp) (cs' := [a1, a2, B false, I pa.n]) rfl fun H11 b11 o11 => ?_
              rw [step5 S _ pa st hst (.inr (.inl e))]
              exact PL.nil ⟨by simp [FrO, go_sem, f0, f3, f4, f5, f18, f19, f20], v8, _, st, a1, a2, by simp [go_sem], rfl, by rw [b11, ha]; simp [e], ha1, ha2, by simp only [e]; exact hov8.mono fun j hj => o11 j (by omega)⟩
            · rw [ha] at b78
              repeat (refine PL.g rfl rfl fun KK hKK => ?_; simp (disch := omega) [go_sem, L.stepG, b78, b48]; refine hKK _ ?_; clear hKK KK)
              repeat (refine PL.k rfl fun KK hKK => ?_; simp [go_sem, stepK, b78, b48]; refine hKK _ ?_; clear hKK KK)
              refine PL.storeA (id := 6) rfl rfl (by simp [dstOk]) (by simp [go_sem]; rfl) b78 asz_4 (v := B true) (by simp [go_sem]) (by simp [go_sem]) rfl rfl (by simp) (cs' := [a1, a2, B true, I pa.n]) rfl fun H11 b11 o11 => ?_
              rw [step5 S _ pa st hst (.inr (.inl e))]
              exact PL.nil ⟨by simp [FrO, go_sem, f0, f3, f4, f5, f18, f19, f20], v8, _, st, a1, a2, by simp [go_sem], rfl, by rw [b11, ha]; simp [e], ha1, ha2, by simp only [e]; exact hov8.mono fun j hj => o11 j (by omega)⟩
          · rw [e] at b45
            refine PC.seq fun K2 hK2 => ?_
            refine PC.region ?_
            repeat (refine PL.k rfl fun KK hKK => ?_; simp [go_sem, stepK, b45]; refine hKK _ ?_; clear hKK KK)
            refine PL.done hK2 ?_; clear hK2
            refine PC.block ?_
            refine PC.seq fun K2 hK2 => ?_
            refine PC.region ?_
            repeat (refine PL.k rfl fun KK hKK => ?_; simp [go_sem, stepK]; refine hKK _ ?_; clear hKK KK)
            refine PL.done hK2 ?_; clear hK2
            refine PC.condF (by simp [go_sem]) ?_
            refine PC.seq fun K2 hK2 => ?_
            refine PC.region ?_
            repeat (refine PL.k rfl fun KK hKK => ?_; simp [go_sem, stepK]; refine hKK _ ?_; clear hKK KK)
            refine PL.done hK2 ?_; clear hK2
            refine PC.condF (by simp [go_sem]) ?_
            refine PC.seq fun K2 hK2 => ?_
            refine PC.region ?_
            repeat (refine PL.k rfl fun KK hKK => ?_; simp [go_sem, stepK]; refine hKK _ ?_; clear hKK KK)
            refine PL.done hK2 ?_; clear hK2
            refine PC.condF (by simp [go_sem]) ?_
            refine PC.seq fun K2 hK2 => ?_
            refine PC.region ?_
            repeat (refine PL.k rfl fun KK hKK => ?_; simp [go_sem, stepK]; refine hKK _ ?_; clear hKK KK)
            refine PL.done hK2 ?_; clear hK2
            refine PC.condF (by simp [go_sem]) ?_
            obtain ⟨pa, st, hst⟩ := hone (.inr (.inr e))
            rw [hst] at hov5
            have hpa := hok.pts pa (by rw [hst]; simp)
            have hstl : st.length ≤ 511 := by
              have := runS_stl l k hk
              rw [hS, hst] at this
              simp at this
              omega
            refine PC.seq fun K2 hK2 => ?_
            refine PC.region ?_
            repeat (refine PL.k rfl fun KK hKK => ?_; simp [go_sem, stepK, f5]; refine hKK _ ?_; clear hKK KK)
            refine PL.inl rfl rfl (pop_ov hov5 (by omega)) (by simp [go_sem]) (by simp [target, go_sem, popV]) ?_
            rintro q H6 ⟨a1, a2, rfl, ha1, ha2, hov6, o6⟩
            have b56 := (o6 6 (by decide) (by decide)).trans b5
            have b46 := (o6 5 (by decide) (by decide)).trans b45
            refine PL.storeA (id := 6) rfl rfl (by simp [dstOk]) (by simp [go_sem]; rfl) b56 asz_83 (v := .agg [a1, a2, B pa.free, I pa.n]) (by simp [go_sem]) (by simp [okC, ha1.leaf, ha2.leaf, leafB, leafI]) rfl rfl (by simp) (cs' := [a1, a2, B pa.free, I pa.n]) rfl fun H7 b7 o7 => ?_
            have b47 := (o7 5 (by decide)).trans b46
            have hov7 := hov6.mono (H' := H7) fun j hj => o7 j (by omega)
            refine PL.done hK2 ?_; clear hK2
            refine PC.seq fun K2 hK2 => ?_
            refine PC.seq fun K3 hK3 => ?_
            refine PC.region ?_
            repeat (refine PL.k rfl fun KK hKK => ?_; simp [go_sem, stepK, b47]; refine hKK _ ?_; clear hKK KK)
            refine PL.done hK3 ?_; clear hK3
            refine PC.condF (by simp [go_sem]) ?_
            refine PC.skip (hK2 _ _ ?_); clear hK2
            refine PC.region ?_
            repeat (refine PL.k rfl fun KK hKK => ?_; simp [go_sem, stepK, b7, b47]; refine hKK _ ?_; clear hKK KK)
            cases ha : pa.free
            · rw [ha] at b7
              repeat (refine PL.g rfl rfl fun KK hKK => ?_; simp (disch := omega) [go_sem, L.stepG, b7, b47]; refine hKK _ ?_; clear hKK KK)
              repeat (refine PL.k rfl fun KK hKK => ?_; simp [go_sem, stepK, b7, b47]; refine hKK _ ?_; clear hKK KK)
              refine PL.storeA (id := 6) rfl rfl (by simp [dstOk]) (by simp [go_sem]; rfl) b7 asz_4 (v := B true) (by simp [go_sem]) (by simp [go_sem]) rfl rfl (by simp) (cs' := [a1, a2, B true, I pa.n]) rfl fun H11 b11 o11 => ?_
              rw [step5 S _ pa st hst (.inr (.inr e))]
              exact PL.nil ⟨by simp [FrO, go_sem, f0, f3, f4, f5, f18, f19, f20], v8, _, st, a1, a2, by simp [go_sem], rfl, by rw [b11, ha]; simp [e], ha1, ha2, by simp only [e]; exact hov7.mono fun j hj => o11 j (by omega)⟩
            · rw [ha] at b7
              repeat (refine PL.g rfl rfl fun KK hKK => ?_; simp (disch := omega) [go_sem, L.stepG, b7, b47]; refine hKK _ ?_; clear hKK KK)
              repeat (refine PL.k rfl fun KK hKK => ?_; simp [go_sem, stepK, b7, b47]; refine hKK _ ?_; clear hKK KK)
              refine PL.storeA (id := 6) rfl rfl (by simp [dstOk]) (by simp [go_sem]; rfl) b7 asz_4 (v := B true) (by simp [go_sem]) (by simp [go_sem]) rfl rfl (by simp) (cs' := [a1, a2, B true, I pa.n]) rfl fun H11 b11 o11 => ?_
              rw [step5 S _ pa st hst (.inr (.inr e))]
              exact PL.nil ⟨by simp [FrO, go_sem, f0, f3, f4, f5, f18, f19, f20], v8, _, st, a1, a2, by simp [go_sem], rfl, by rw [b11, ha]; simp [e], ha1, ha2, by simp only [e]; exact hov7.mono fun j hj => o11 j (by omega)⟩
        -- behind the switch
        · rintro F H6 ⟨⟨f0, f3, f4, f5, f18, f19, f20⟩, v8, p, st, a, b, f8, hst, b6, ha, hb, hov6⟩
          have hstl : st.length + 1 ≤ 512 := by
            have := runS_stl l (k + 1) hlt
            rw [hsucc, hst] at this
            simp at this
            omega
          obtain ⟨vs, vf, fc, sv, cs, h0, h1, h2, h3, h4, h5, h6⟩ := hov6
          refine PC.region ?_
          repeat (refine PL.k rfl fun KK hKK => ?_; simp [go_sem, stepK, f4, f8, h4, b6]; refine hKK _ ?_; clear hKK KK)
          refine PL.buildSliceR (d := 105) rfl rfl rfl (by simp) selem_115 rfl (by omega) (ips := [(0, .agg [a, b, B p.free, I p.n])]) (by simp [go_sem]) (by simp [litOk, okC, ha.leaf, hb.leaf, leafB, leafI, PV.cells]) (ps := [.agg [a, b, B p.free, I p.n]]) rfl ?_
          refine PL.appendS (d := 106) (m := st.length) (cs2 := [a, b, B p.free, I p.n]) (sv := sv) (px := .sl 4 [.agg [a, b, B p.free, I p.n]]) rfl rfl rfl (by simp) selem_115 (by simp [go_sem]) h5 h6.len (by simp [go_sem]) rfl (by simp [ha.leaf, hb.leaf, leafB, leafI]) (by unfold maxLen; omega) (by omega) fun vt H7 b7 o7 => ?_
          refine PL.storeA (id := 1) rfl rfl (by simp [dstOk]) (by simp [go_sem, f4]; rfl) ((o7 1 (by decide)).trans h4) asz_115 (v := .ps 2 vt) (by simp [go_sem]) (by simp [okC, leafOk, liveRow, b7]) rfl rfl (by simp) (cs' := [.ps 2 vt]) rfl fun H8 b8 o8 => ?_
          refine PL.nil ⟨by simp [FrO, go_sem, f0, f3, f4, f5, f18, f19, f20], ?_⟩
          rw [hst]
          have ho : ∀ j, j ≠ 1 → j ≠ 2 → H8 j = H6 j := fun j e1 e2 => by rw [o8 j e1, o7 j e2]
          exact ⟨vs, vf, fc, .ps 2 vt, cs ++ [a, b, B p.free, I p.n], (ho 0 (by omega) (by omega)).trans h0, h1.mono (ho 3 (by omega) (by omega)), h2.mono (ho 4 (by omega) (by omega)), h3, b8, .inr ⟨vt, rfl, (o8 2 (by decide)).trans b7⟩, cs, a, b, rfl, ha, hb, h6⟩
      · rintro F H6 ⟨⟨f0, f3, f4, f5, f18, f19, f20⟩, hov6⟩
        have hA : ∀ (t : Nat) (x y : Operand), binP Try.prog .add t x y (I (k : Int)) (I 1) = some (I ((k : Int) + 1)) := fun t x y => binP_add (by omega) (by omega)
        refine PC.region ?_
        repeat (refine PL.k rfl fun KK hKK => ?_; simp [go_sem, stepK, f20, hA]; refine hKK _ ?_; clear hKK KK)
        refine PL.nil ⟨l.length - (k + 1), by omega, k + 1, by omega, by omega, by simp [FrO, go_sem, f0, f3, f4, f5, f18, f19, f20], by rw [hsucc]; exact hov6, hnext⟩
    · have hka : k = l.length := by omega
      subst hka
      rw [List.take_of_length_le (Nat.le_refl _)] at hov hchk
      rw [List.drop_of_length_le (Nat.le_refl _)] at hchk
      refine PC.seq fun K2 hK2 => ?_
      refine PC.region ?_
      repeat (refine PL.k rfl fun KK hKK => ?_; simp [go_sem, stepK, f20, f19]; refine hKK _ ?_; clear hKK KK)
      refine PL.done hK2 ?_; clear hK2
      refine PC.seq fun K2 hK2 => ?_
      refine PC.condF (by simp [go_sem]) ?_
      exact PC.exit ⟨by simp [FrO, go_sem, f0, f3, f4, f5, f18, f19, f20], hov, hchk⟩
  · rintro F H6 ⟨⟨f0, f3, f4, f5, f18, f19, f20⟩, hov6, hone⟩
    have hend : ∃ p, (runS l).st = [p] := by
      rw [checkLoop] at hone
      split at hone
      · rename_i hq
        have hq1 : (runS l).st.length = 1 := by omega
        exact List.length_eq_one_iff.1 hq1
      · cases hone
    obtain ⟨p, hp⟩ := hend
    obtain ⟨vs, vf, fc, sv, cs, h0, h1, h2, h3, h4, h5, h6⟩ := hov6
    rw [hp] at h5 h6
    obtain ⟨cs', a, b, rfl, ha, hb, hc'⟩ := h6
    have : cs' = [] := hc'
    subst this
    rcases h5 with ⟨_, h5⟩ | ⟨vt, rfl, h5⟩
    · cases h5
    refine PC.seq fun K hK => ?_
    refine PC.region ?_
    repeat (refine PL.k rfl fun KK hKK => ?_; simp [go_sem, stepK, f3, f4, h4, h5, h0]; refine hKK _ ?_; clear hKK KK)
    refine PL.storeA (id := 0) rfl rfl (by simp [dstOk]) (by simp [go_sem, f3]; rfl) h0 asz_83 (v := .agg [a, b, B p.free, I p.n]) (by simp [go_sem]) (by simp [okC, ha.leaf, hb.leaf, leafB, leafI]) rfl rfl (by simp) (cs' := [rowV (runS l).sets.length 3 vs, rowV (runS l).sets.length 4 vf, a, b, B p.free, I p.n]) rfl fun H8 b8 o8 => ?_
    refine PL.done hK ?_; clear hK
    refine PC.seq fun K hK => ?_
    refine PC.region ?_
    repeat (refine PL.k rfl fun KK hKK => ?_; simp [go_sem, stepK, f3]; refine hKK _ ?_; clear hKK KK)
    refine PL.done hK ?_; clear hK
    refine PC.ret ?_
    refine ⟨.inr rfl, .pp 0 0 vx, ?_, vx, vs, vf, fc, a, b, p, rfl, hp, b8, h1.mono (o8 3 (by decide)), h2.mono (o8 4 (by decide)), h3, ha, hb⟩
    simp [resP, resP1, Try.results59, go_sem]
end Go.Proofs.Ytficeeaaaijgcaa
