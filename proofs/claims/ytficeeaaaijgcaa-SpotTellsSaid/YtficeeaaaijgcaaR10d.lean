import Derived.Test.YtficeeaaaijgcaaR10c
import Derived.Test.YtficeeaaaijgcaaSubs
namespace Go.Proofs.Ytficeeaaaijgcaa
open Go.RowKit
set_option linter.unusedVariables false

set_option maxHeartbeats 400000 in
theorem ref10_Has_any (v : Value) (l : List Int) (n : Int) (w : World) (hv : RdI w v l) (hl : l.length ≤ 4000000) :
    Calls Try.prog 26 #[v, .int .i64 n] w fun e w' => e = .returned (.bool (decide (n ∈ l))) ∧ w = w' := by
  obtain ⟨a, c, rfl, hc⟩ := hv
  go_enter Try.func26, Try.ntmps26
  go_wp2
  go_loop [5] (fun i => ∃ k : Nat, k ≤ l.length ∧ i = .int .i64 k ∧ n ∉ l.take k) (fun i => l.length - (intOf i).toNat)
  case atStart => exact ⟨0, by omega, rfl, by simp⟩
  case round =>
    obtain ⟨k, hk, rfl, hn⟩ := hrel
    have Hn := Lib.hid hn; clear hn
    by_cases hlt : k < l.length
    · obtain ⟨b, o, rfl, hcell⟩ := hc k hlt
      clear hc
      by_cases he : l[k] = n
      · have he1 : (l[k] == n) = true := by simp [he]
        have Hm : Hid (n ∈ l) := by rw [← he]; exact List.getElem_mem hlt
        clear he
        go_wp2
        go_ret
        exact ⟨by simp [Hm.out], rfl⟩
      · have he1 : (l[k] == n) = false := by simp [he]
        have Hm : Hid (n ∉ l.take (k+1)) := by
          intro hh; rw [List.take_succ_eq_append_getElem hlt] at hh; rcases List.mem_append.1 hh with hh | hh
          · exact Hn.out hh
          · simp at hh; exact he hh.symm
        clear he
        go_wp2
        go_round
        case rel => exact ⟨k + 1, by omega, by go_num, Hm.out⟩
        case measure => simp [intOf]; omega
    · go_wp2
      go_ret
      have : l.take k = l := List.take_of_length_le (by omega)
      have h := Hn.out
      rw [this] at h
      exact ⟨by simp [h], rfl⟩

set_option maxHeartbeats 400000 in
theorem ref9_SameInts_any (v u : Value) (l m : List Int) (w : World) (hv : RdI w v l) (hu : RdI w u m) (hl : l.length ≤ 4000000) (hm : m.length ≤ 4000000) :
    Calls Try.prog 15 #[v, u] w fun e w' => e = .returned (.bool (decide (l = m))) ∧ ∃ n, w' = w.drewN n := by
  obtain ⟨a, c, rfl, hc⟩ := hv
  obtain ⟨a2, c2, rfl, hc2⟩ := hu
  by_cases hlen : l.length = m.length
  · have hlen1 : ((l.length : Int) != (m.length : Int)) = false := by simp [hlen]
    have Hlen := Lib.hid hlen; clear hlen
    go_enter Try.func15, Try.ntmps15
    go_wp2
    go_loopw [5] (fun i wr => (∃ n, wr = w.drewN n) ∧ ∃ k : Nat, k ≤ l.length ∧ i = .int .i64 k ∧ l.take k = m.take k) (fun i _ => l.length - (intOf i).toNat)
    case atStart => exact ⟨⟨0, rfl⟩, 0, by omega, rfl, by simp⟩
    case round =>
      obtain ⟨⟨q, rfl⟩, k, hk, rfl, hn⟩ := hrel
      have Hn := Lib.hid hn; clear hn
      by_cases hlt : k < l.length
      · obtain ⟨b, o, rfl, hcell⟩ := hc k hlt
        have hlt2 : k < m.length := by have := Hlen.out; omega
        obtain ⟨b', o', rfl, hcell'⟩ := hc2 k hlt2
        clear hc hc2
        by_cases hd : l[k] = m[k]
        · have hmm : Hid (l.take (k+1) = m.take (k+1)) := Lib.hid (by
            rw [take_succ l k hlt, take_succ m k hlt2, Hn.out, hd])
          have hd1 : (l[k] != m[k]) = false := by simp [hd]
          clear hd
          go_wp2
          go_quiet (fail)
          go_wp2
          go_roundw
          case rel => exact ⟨⟨_, rfl⟩, k + 1, by omega, by go_num, hmm.out⟩
          case measure => simp [intOf]; omega
        · have hf : Hid (l ≠ m) := by
            intro h; subst h; exact hd rfl
          have hd1 : (l[k] != m[k]) = true := by simp [hd]
          clear hd
          go_wp2
          go_quiet (fail)
          go_wp2
          go_ret
          exact ⟨by simp [hf.out], qd _ _ _⟩
      · go_wp2
        go_ret
        refine ⟨?_, _, rfl⟩
        have h := Hn.out
        rw [List.take_of_length_le (by omega), List.take_of_length_le (by have := Hlen.out; omega)] at h
        simp [h]
  · have hlen1 : ((l.length : Int) != (m.length : Int)) = true := by simp; omega
    have Hf : Hid (l ≠ m) := by intro h; exact hlen (by rw [h])
    clear hlen
    go_enter Try.func15, Try.ntmps15
    go_wp2
    go_ret
    exact ⟨by simp [Hf.out], 0, rfl⟩


/-- the root of step k -/
theorem WfX.sub {l : List Rx} {e : E} (h : WfX l e) (k : Nat) (hk : k < l.length) : ∃ f s n, (subs e 0)[k]? = some (f, (n : Int)) ∧ AtT l s f (k + 1) ∧ numL l s = n ∧ l[k].kind = kindT f := by
  have hs : k < (subs e 0).length := by rw [subs_len, ← h.2]; exact hk
  have hx := subs_at l e 0 l.length h.at k ((subs e 0)[k]) (by rw [numL_zero]; exact List.getElem?_eq_getElem hs)
  obtain ⟨s', h1, h2⟩ := hx
  rw [Nat.zero_add] at h1
  refine ⟨_, s', numL l s', ?_, h1, rfl, h1.kind k hk rfl⟩
  rw [List.getElem?_eq_getElem hs, h2]

def FlRel (e : E) (w : World) (L : Nat) (a b : Int) (i : Value) (wr : World) : Prop :=
  ∃ k : Nat, k ≤ L ∧ i = .int .i64 k ∧ Below w.heap.size w wr ∧ ∀ (j : Nat) (x : E × Int), j < k → (subs e 0)[j]? = some x → rootB x.1 x.2 a b = false

theorem folB_true {e : E} {a b : Int} {k : Nat} {x : E × Int} (h : (subs e 0)[k]? = some x) (hr : rootB x.1 x.2 a b = true) : folB e 0 a b = true :=
  List.any_eq_true.2 ⟨x, List.mem_of_getElem? h, hr⟩
theorem folB_false {e : E} {a b : Int} (h : ∀ (j : Nat) (x : E × Int), j < (subs e 0).length → (subs e 0)[j]? = some x → rootB x.1 x.2 a b = false) : folB e 0 a b = false := by
  rw [Bool.eq_false_iff]
  intro ht
  obtain ⟨x, hx, hr⟩ := List.any_eq_true.1 ht
  obtain ⟨j, hj, rfl⟩ := List.getElem_of_mem hx
  rw [h j _ hj (List.getElem?_eq_getElem hj)] at hr
  cases hr
theorem FlRel.step {e : E} {w w1 : World} {L : Nat} {a b : Int} {k : Nat} {x : E × Int} (hk : k < L) (hb : Below w.heap.size w w1) (hold : ∀ (j : Nat) (x : E × Int), j < k → (subs e 0)[j]? = some x → rootB x.1 x.2 a b = false) (hx : (subs e 0)[k]? = some x) (hr : rootB x.1 x.2 a b = false) (i : Value) (hi : i = .int .i64 ((k + 1 : Nat) : Int)) : FlRel e w L a b i w1 :=
  ⟨k + 1, by omega, hi, hb, fun j y hj hy => by
    by_cases e1 : j = k
    · subst e1; rw [hx] at hy; cases hy; exact hr
    · exact hold j y (by omega) hy⟩

set_option maxHeartbeats 2000000 in
theorem follows_any (v : Value) (l : List Rx) (e : E) (a b : Int) (w : World) (hv : RdX w v l) (he : WfX l e) :
    Calls Try.prog 61 #[v, .int .i64 a, .int .i64 b] w fun e' w' => e' = .returned (.bool (folB e 0 a b)) ∧ Below w.heap.size w w' := by
  have hl := he.1
  obtain ⟨ad, c, rfl⟩ := hv.shape
  go_enter Try.func61, Try.ntmps61
  go_wp2_with fail
  go_loopw [7] (FlRel e w l.length a b) (fun i _ => l.length - (intOf i).toNat)
  case atStart => exact ⟨0, by omega, rfl, Below.refl _ _, fun j x hj => by omega⟩
  case round =>
    obtain ⟨k, hk, rfl, hb, hold⟩ := hrel
    have Hold := Lib.hid hold; clear hold
    have hvr := hv.below hb
    by_cases hlt : k < l.length
    · obtain ⟨f, s, n, hsub, hat, hnum, hkind⟩ := he.sub k hlt
      obtain ⟨_, bb, o, rfl, hcell⟩ := hvr.kindAt k hlt
      rw [hkind] at hcell
      have Hsub := Lib.hid hsub; clear hsub
      have Hnum := Lib.hid hnum; clear hnum
      clear hkind
      cases f with
      | set | empty | alt x y | opt x =>
        simp only [kindT] at hcell
        go_wp2_with fail
        go_roundw
        case rel => exact FlRel.step hlt hb Hold.out Hsub.out rfl _ (by go_num)
        case measure => simp [intOf]; omega
      | star x =>
        simp only [kindT] at hcell
        have hb1 := hat.star.bound
        have hlen1 : (lastT x n).length ≤ 4000000 := by have := lastT_len x n; have := (hat.star).nset_le; omega
        have hlen2 : (firstT x n).length ≤ 4000000 := by have := firstT_len x n; have := (hat.star).nset_le; omega
        have E1 : Hid (∀ w, RdX w (.slice (some ⟨bb, o, none⟩) l.length c) l → Calls Try.prog 60 #[.slice (some ⟨bb, o, none⟩) l.length c, .int .i64 ((k : Int) - 1), .bool true] w fun e w' => ∃ v', e = .returned v' ∧ OwI w' w.heap.size v' (lastT x n) ∧ Below w.heap.size w w') := Lib.hid (fun w hv => by
          have := ends_any l (by omega) x s k (hat.star) _ true (((k : Int) - 1)) (by omega) w hv
          rw [Hnum.out] at this
          exact this)
        have E2 : Hid (∀ w, RdX w (.slice (some ⟨bb, o, none⟩) l.length c) l → Calls Try.prog 60 #[.slice (some ⟨bb, o, none⟩) l.length c, .int .i64 ((k : Int) - 1), .bool false] w fun e w' => ∃ v', e = .returned v' ∧ OwI w' w.heap.size v' (firstT x n) ∧ Below w.heap.size w w') := Lib.hid (fun w hv => by
          have := ends_any l (by omega) x s k (hat.star) _ false ((k : Int) - 1) (by omega) w hv
          rw [Hnum.out] at this
          exact this)
        go_wp2_with fail
        refine (E1.out _ hvr).mono ?_
        rintro e1 w1 ⟨v1, rfl, hown1, hb1⟩
        have hvr1 := hvr.below hb1
        have hB1 := hb.trans (hb1.mono hb.size)
        clear hvr hb hb1 hcell
        go_wp2_with fail
        refine (ref10_Has_any _ _ a _ hown1.rd hlen1).mono ?_
        rintro e2 w2 ⟨he2, rfl⟩
        by_cases hin : a ∈ lastT x n
        · rw [decide_eq_true hin] at he2
          subst he2
          have Hin := Lib.hid hin; clear hin hown1
          go_wp2_with fail
          refine (E2.out _ hvr1).mono ?_
          rintro e3 w3 ⟨v3, rfl, hown3, hb3⟩
          have hB3 := hB1.trans (hb3.mono hB1.size)
          clear hvr1 hB1 hb3
          go_wp2_with fail
          refine (ref10_Has_any _ _ b _ hown3.rd hlen2).mono ?_
          rintro e4 w4 ⟨he4, rfl⟩
          by_cases hin2 : b ∈ firstT x n
          · rw [decide_eq_true hin2] at he4
            subst he4
            have Ht : Hid (folB e 0 a b = true) := Lib.hid (folB_true Hsub.out ((rootB_star x n a b).2 ⟨Hin.out, hin2⟩))
            clear hin2 hown3
            go_wp2_with fail
            go_ret
            exact ⟨ret_bool Ht.out.symm, hB3⟩
          · rw [decide_eq_false hin2] at he4
            subst he4
            have Hr : Hid (rootB (.star x) n a b = false) := Lib.hid (by rw [Bool.eq_false_iff]; intro h; exact hin2 (((rootB_star x n a b).1 h).2))
            clear hin2 hown3
            go_wp2_with fail
            go_roundw
            case rel => exact FlRel.step hlt hB3 Hold.out Hsub.out Hr.out _ (by go_num)
            case measure => simp [intOf]; omega
        · rw [decide_eq_false hin] at he2
          subst he2
          have Hr : Hid (rootB (.star x) n a b = false) := Lib.hid (by rw [Bool.eq_false_iff]; intro h; exact hin (((rootB_star x n a b).1 h).1))
          clear hin hown1
          go_wp2_with fail
          go_roundw
          case rel => exact FlRel.step hlt hB1 Hold.out Hsub.out Hr.out _ (by go_num)
          case measure => simp [intOf]; omega
      | plus x =>
        simp only [kindT] at hcell
        have hb1 := hat.plus.bound
        have hlen1 : (lastT x n).length ≤ 4000000 := by have := lastT_len x n; have := (hat.plus).nset_le; omega
        have hlen2 : (firstT x n).length ≤ 4000000 := by have := firstT_len x n; have := (hat.plus).nset_le; omega
        have E1 : Hid (∀ w, RdX w (.slice (some ⟨bb, o, none⟩) l.length c) l → Calls Try.prog 60 #[.slice (some ⟨bb, o, none⟩) l.length c, .int .i64 ((k : Int) - 1), .bool true] w fun e w' => ∃ v', e = .returned v' ∧ OwI w' w.heap.size v' (lastT x n) ∧ Below w.heap.size w w') := Lib.hid (fun w hv => by
          have := ends_any l (by omega) x s k (hat.plus) _ true (((k : Int) - 1)) (by omega) w hv
          rw [Hnum.out] at this
          exact this)
        have E2 : Hid (∀ w, RdX w (.slice (some ⟨bb, o, none⟩) l.length c) l → Calls Try.prog 60 #[.slice (some ⟨bb, o, none⟩) l.length c, .int .i64 ((k : Int) - 1), .bool false] w fun e w' => ∃ v', e = .returned v' ∧ OwI w' w.heap.size v' (firstT x n) ∧ Below w.heap.size w w') := Lib.hid (fun w hv => by
          have := ends_any l (by omega) x s k (hat.plus) _ false ((k : Int) - 1) (by omega) w hv
          rw [Hnum.out] at this
          exact this)
        go_wp2_with fail
        refine (E1.out _ hvr).mono ?_
        rintro e1 w1 ⟨v1, rfl, hown1, hb1⟩
        have hvr1 := hvr.below hb1
        have hB1 := hb.trans (hb1.mono hb.size)
        clear hvr hb hb1 hcell
        go_wp2_with fail
        refine (ref10_Has_any _ _ a _ hown1.rd hlen1).mono ?_
        rintro e2 w2 ⟨he2, rfl⟩
        by_cases hin : a ∈ lastT x n
        · rw [decide_eq_true hin] at he2
          subst he2
          have Hin := Lib.hid hin; clear hin hown1
          go_wp2_with fail
          refine (E2.out _ hvr1).mono ?_
          rintro e3 w3 ⟨v3, rfl, hown3, hb3⟩
          have hB3 := hB1.trans (hb3.mono hB1.size)
          clear hvr1 hB1 hb3
          go_wp2_with fail
          refine (ref10_Has_any _ _ b _ hown3.rd hlen2).mono ?_
          rintro e4 w4 ⟨he4, rfl⟩
          by_cases hin2 : b ∈ firstT x n
          · rw [decide_eq_true hin2] at he4
            subst he4
            have Ht : Hid (folB e 0 a b = true) := Lib.hid (folB_true Hsub.out ((rootB_plus x n a b).2 ⟨Hin.out, hin2⟩))
            clear hin2 hown3
            go_wp2_with fail
            go_ret
            exact ⟨ret_bool Ht.out.symm, hB3⟩
          · rw [decide_eq_false hin2] at he4
            subst he4
            have Hr : Hid (rootB (.plus x) n a b = false) := Lib.hid (by rw [Bool.eq_false_iff]; intro h; exact hin2 (((rootB_plus x n a b).1 h).2))
            clear hin2 hown3
            go_wp2_with fail
            go_roundw
            case rel => exact FlRel.step hlt hB3 Hold.out Hsub.out Hr.out _ (by go_num)
            case measure => simp [intOf]; omega
        · rw [decide_eq_false hin] at he2
          subst he2
          have Hr : Hid (rootB (.plus x) n a b = false) := Lib.hid (by rw [Bool.eq_false_iff]; intro h; exact hin (((rootB_plus x n a b).1 h).1))
          clear hin hown1
          go_wp2_with fail
          go_roundw
          case rel => exact FlRel.step hlt hB1 Hold.out Hsub.out Hr.out _ (by go_num)
          case measure => simp [intOf]; omega
      | cat x y =>
        simp only [kindT] at hcell
        obtain ⟨m, hm1, hm2', hsm, hmk⟩ := hat.cat
        have hm2 : AtT l m y k := hm2'
        have hlen1 : (lastT x n).length ≤ 4000000 := by have := lastT_len x n; have := (hm1).nset_le; omega
        have hlen2 : (firstT y (n + nset x)).length ≤ 4000000 := by have := firstT_len y (n + nset x); have := (hm2).nset_le; omega
        have E1 : Hid (∀ w, RdX w (.slice (some ⟨bb, o, none⟩) l.length c) l → Calls Try.prog 60 #[.slice (some ⟨bb, o, none⟩) l.length c, .int .i64 ((m : Int) - 1), .bool true] w fun e w' => ∃ v', e = .returned v' ∧ OwI w' w.heap.size v' (lastT x n) ∧ Below w.heap.size w w') := Lib.hid (fun w hv => by
          have := ends_any l (by omega) x s m (hm1) _ true (((m : Int) - 1)) (by omega) w hv
          rw [Hnum.out] at this
          exact this)
        have E2 : Hid (∀ w, RdX w (.slice (some ⟨bb, o, none⟩) l.length c) l → Calls Try.prog 60 #[.slice (some ⟨bb, o, none⟩) l.length c, .int .i64 ((k : Int) - 1), .bool false] w fun e w' => ∃ v', e = .returned v' ∧ OwI w' w.heap.size v' (firstT y (n + nset x)) ∧ Below w.heap.size w w') := Lib.hid (fun w hv => by
          have := ends_any l (by omega) y m k (hm2) _ false ((k : Int) - 1) (by omega) w hv
          rw [(hm1).num, Int.natCast_add, Hnum.out] at this
          exact this)
        go_wp2_with fail
        refine (begin_any l (by omega) y m k hm2 _ _ hvr ((k : Int) - 1) rfl).mono ?_
        rintro e0 w0 ⟨rfl, rfl⟩
        go_wp2_with fail
        refine (E1.out _ hvr).mono ?_
        rintro e1 w1 ⟨v1, rfl, hown1, hb1⟩
        have hvr1 := hvr.below hb1
        have hB1 := hb.trans (hb1.mono hb.size)
        clear hvr hb hb1 hcell
        go_wp2_with fail
        refine (ref10_Has_any _ _ a _ hown1.rd hlen1).mono ?_
        rintro e2 w2 ⟨he2, rfl⟩
        by_cases hin : a ∈ lastT x n
        · rw [decide_eq_true hin] at he2
          subst he2
          have Hin := Lib.hid hin; clear hin hown1
          go_wp2_with fail
          refine (E2.out _ hvr1).mono ?_
          rintro e3 w3 ⟨v3, rfl, hown3, hb3⟩
          have hB3 := hB1.trans (hb3.mono hB1.size)
          clear hvr1 hB1 hb3
          go_wp2_with fail
          refine (ref10_Has_any _ _ b _ hown3.rd hlen2).mono ?_
          rintro e4 w4 ⟨he4, rfl⟩
          by_cases hin2 : b ∈ firstT y (n + nset x)
          · rw [decide_eq_true hin2] at he4
            subst he4
            have Ht : Hid (folB e 0 a b = true) := Lib.hid (folB_true Hsub.out ((rootB_cat x y n a b).2 ⟨Hin.out, hin2⟩))
            clear hin2 hown3
            go_wp2_with fail
            go_ret
            exact ⟨ret_bool Ht.out.symm, hB3⟩
          · rw [decide_eq_false hin2] at he4
            subst he4
            have Hr : Hid (rootB (.cat x y) n a b = false) := Lib.hid (by rw [Bool.eq_false_iff]; intro h; exact hin2 (((rootB_cat x y n a b).1 h).2))
            clear hin2 hown3
            go_wp2_with fail
            go_roundw
            case rel => exact FlRel.step hlt hB3 Hold.out Hsub.out Hr.out _ (by go_num)
            case measure => simp [intOf]; omega
        · rw [decide_eq_false hin] at he2
          subst he2
          have Hr : Hid (rootB (.cat x y) n a b = false) := Lib.hid (by rw [Bool.eq_false_iff]; intro h; exact hin (((rootB_cat x y n a b).1 h).1))
          clear hin hown1
          go_wp2_with fail
          go_roundw
          case rel => exact FlRel.step hlt hB1 Hold.out Hsub.out Hr.out _ (by go_num)
          case measure => simp [intOf]; omega
    · go_wp2_with fail
      go_ret
      exact ⟨ret_bool (folB_false fun j x hj hx => Hold.out j x (by rw [subs_len, ← he.2] at hj; omega) hx).symm, hb⟩
end Go.Proofs.Ytficeeaaaijgcaa
