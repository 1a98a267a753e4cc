import Derived.Defers
import Derived.Laws.Pointers
import Derived.Laws.LoneSync
import Derived.ProofKit
import Derived.OpenShut
import Derived.Deep.Slices
import Derived.SizedLaws
import Derived.LaidMore
import Derived.Stop.Joined
import Derived.RegionTactic
import Derived.RegionCalls
import Derived.ChangeAlike
import Derived.Tactics
import Derived.Tactics2
import Derived.RangeFuncNested
import Derived.RangeFuncBound
import Derived.RangeFuncCalls
import Derived.RangeFuncLeaves
import Derived.Shelf.Abstract
import Derived.Shelf.RegionOpen
import Derived.OwnWalkIn
import Derived.TacticsInMore
import Derived.LoopNIn
import Derived.LoopIn
import Derived.Maps.AppendAt
import Derived.Sort.LoopGhostIn
import Derived.Laws.DeepStrings4
import Derived.Test.YtiafpechgjopfaaGreatDoorQ3LangNil

namespace Go.Proofs.YtiafpechgjopfaaGreatDoor.T
noncomputable section
open _root_.Go.Proofs.Tryz
set_option maxRecDepth 100000
set_option maxHeartbeats 8000000
set_option linter.unusedVariables false
set_option linter.unusedSimpArgs false
set_option linter.defProp false
open List (replicate range)
open Go Go.RowKit L
section
variable {P : Program} {W : Env} {n : Nat} {o : Oper} {E : EF} {F : PFrame} {H : PHeap} {G : EG}
theorem z1e {w : World} {t ty e : TypeId} {i : TypeInfo} (ht : P.underlying t = some (.slice e)) (hi : P.info? e = some i)
    {g off m cap : Nat} {cur : Array Value} (hg : w.heap[g]? = some (.cells cur e (0, 0))) (hoff : off ≤ m)
    {a : Addr} {m2 c : Nat} {news : List Value} (hl : news.length = m2 * i.size) (hnews : ∀ j u, news[j]? = some u → w.cell? (a.add j) = some u) (h1 : ∀ u ∈ news, u.oneCell' = true)
    (hroom : m + m2 ≤ cap) (hfit : m * i.size + news.length ≤ cur.size) :
    (Builtin.append_ #[t, t] ty #[.slice (some ⟨g, off * i.size, none⟩) (m - off) (cap - off), .slice (some a) m2 c]).run P w =
      .ok (.slice (some ⟨g, off * i.size, none⟩) (m - off + m2) (cap - off)) (w.setRow g (cur.toList.take (m * i.size) ++ news ++ cur.toList.drop (m * i.size + news.length)).toArray) := by
  have hf := run_firstCells_some (P := P) w i.size m2 a m2 c news hl hnews
  have hst := run_storeCells_at P g (m * i.size) e news 0 cur w hg (by simpa using hfit) h1
  simp only [wdb] at hst
  have hadd : off * i.size + (m - off) * i.size = m * i.size := by rw [← wc3]; congr 1; omega
  have hroom' : m - off + m2 ≤ cap - off := by omega
  simp [Builtin.append_, run_underlying ht, sizeOf, typeInfo, hi, Builtin.lenOf, hroom', hf, yf, hadd, hst]
theorem zxd {w : World} {base : Nat} {e : TypeId} {i : TypeInfo} {z : Value} (hzs : z.cells.size = i.size) {n m old : Nat} (ho : old < n + m) {xs news : List Value} (hxs : xs.length = n * i.size) (hl : news.length = m * i.size) (h63 : n + m ≤ maxLen) (hbase : base ≤ w.heap.size) (row : Option Nat) :
    (w.drew.alloc (.cells (xs.toArray ++ news.toArray ++ Builtin.zeroCells z.cells (grownCap w (n + m) old e - (n + m))) e)).ownsRow base e i.size
        (.slice (some ⟨w.heap.size, 0, none⟩) (n + m) (grownCap w (n + m) old e)) (n + m) (xs ++ news) ∧
      w.grownBy (w.drew.alloc (.cells (xs.toArray ++ news.toArray ++ Builtin.zeroCells z.cells (grownCap w (n + m) old e - (n + m))) e)) row := by
  have hge := grownCap_ge w (n + m) old e
  have hcm : grownCap w (n + m) old e ≤ maxLen := grownCap_le_maxLen w (n + m) old e h63
  have hlen : (xs ++ news).length = (n + m) * i.size := by rw [wch, hxs, hl, wc3]
  refine ⟨⟨hlen, .inr ⟨w.heap.size, _, _, rfl, hbase, heap_alloc_new w.drew _, hge, hcm, ?_, ?_⟩⟩, ⟨rfl, rfl, rfl, by simp, fun k hk _ => by first | exact heap_alloc_old _ _ _ hk | exact heap_alloc_old _ _ hk⟩⟩
  · simp only [Array.size_append, wef, size_zeroCells, hzs, hxs, hl, ← wc3]
    congr 1
    omega
  · simp only [Array.toList_append, wcq]
    rw [← wcq, ← hlen]
    exact List.take_left
theorem zot {V : Nm → Value} {w : World} (hr : HRel P W H V w) {id : Nm} {e k m : Nat} {cs : List PV} {bd : PBody} (hb : (H id).body = some bd) (hq : bd = .row e k m cs ∨ bd = .que e k m cs) :
    ∃ v0 off pre vs, w.ownsRow W.w.heap.size e k v0 (off + m) (pre ++ vs) ∧ pre.length = off * k ∧ zix off k v0 (V id) ∧ (∀ u ∈ pre ++ vs, u.oneCell' = true) ∧ RpL W.Z H V w cs vs := by
  obtain ⟨vs, h1, h2⟩ := hr.body id bd hb
  rcases hq with rfl | rfl
  · obtain ⟨h3, h4⟩ := h1
    refine ⟨V id, 0, [], vs, by simpa using h3, by simp, ?_, by simpa using h4, h2⟩
    rcases h3.2 with ⟨e1, e2⟩ | ⟨g', cap', cur', e1, _, _, e5, _⟩
    · exact ⟨none, 0, 0, none, e1, e1, wb7 _, wb7 _, .inl ⟨rfl, rfl⟩⟩
    · exact ⟨_, _, _, _, e1, e1, wdq _, e5, .inr ⟨g', 0, rfl, rfl, .inl (by simp)⟩⟩
  · obtain ⟨v0, off, pre, h3, h4, h5, h6⟩ := h1
    exact ⟨v0, off, pre, vs, h3, h4, h5, h6, h2⟩
theorem wbp {lo x : Operand} {id : Nm} {t ver e k m : Nat} {kd : IntKind} {z : Int} {cs : List PV} {bd : PBody} {K : PV → PHeap → Prop} (ho : o.op = .slice t x (some lo) none none) (hdo : Jc n o) (ht : esz P t = some k) (hx : evP F x = .ps id ver) (hH : H id = ⟨ver, some bd⟩) (hq : bd = .row e k m cs ∨ bd = .que e k m cs) (hy : evP F lo = .u (.int kd z)) (h0 : 0 ≤ z) (hz : z.toNat ≤ m)
    (hk : K (.ps id (ver + 1)) (H.set id ⟨ver + 1, some (.que e k (m - z.toNat) (cs.drop (z.toNat * k)))⟩)) : PE P W n o F H K := fun V a w hr => by
  obtain ⟨e', ti, hu, hti, rfl⟩ := Ze ht
  have hxv := Rp.eval (P := P) (F := F) (a := a) (Z := W.Z) (H := H) (V := V) (w := w) x fun t _ => hr.slot t
  have hyv := Rp.eval (P := P) (F := F) (a := a) (Z := W.Z) (H := H) (V := V) (w := w) lo fun t _ => hr.slot t
  rw [hx] at hxv
  rw [hy] at hyv
  have e1 : a.eval x = V id := by
    generalize a.eval x = q at hxv
    cases hxv with
    | ps _ _ _ hvv hq => exact hq (by rw [hH]; rfl) (by rw [hH])
  have e2 : a.eval lo = .int kd z := by generalize a.eval lo = q at hyv; cases hyv; rfl
  obtain ⟨v0, off, pre, vs, hown, hpl, hdr, h1, hR⟩ := zot hr.heap (bd := bd) (by rw [hH]) hq
  have hblk0 := Jd hdr
  obtain ⟨ad, mm, cap, ad', hV, hx1, hoff, hmc, hcase⟩ := hdr
  have hmm : mm = off + m := by
    rcases hown.2 with ⟨e1, e0⟩ | ⟨g, cap, cur, e1, _⟩ <;> rw [hV] at e1 <;> cases e1
    · omega
    · rfl
  subst hmm
  rw [wdg] at hx1
  have hbd := vu (P := P) (w := w) (isS := true) (len := m) (cap := cap - off) (l := z.toNat) (h := m) (lo := some (.int kd z)) (hi := none) (.inr ⟨kd, z, rfl, h0, rfl⟩) (.inl ⟨rfl, rfl⟩) (by omega) (by omega)
  have hex : (execOp a.eval o).run P w = .ok (.value (.slice (if cap - off = z.toNat then ad' else ad'.map (·.add (z.toNat * ti.size))) (m - z.toNat) (cap - off - z.toNat))) w := by
    simp only [execOp, ho]
    simp [e1, hx1, e2, Instr.sliceAt, Instr.slice, run_underlying hu, hbd, sizeOf, typeInfo, hti]
  have hdr' : zix (off + z.toNat) ti.size v0 (.slice (if cap - off = z.toNat then ad' else ad'.map (·.add (z.toNat * ti.size))) (m - z.toNat) (cap - off - z.toNat)) := by
    refine ⟨ad, off + m, cap, _, hV, by rw [show m - z.toNat = off + m - (off + z.toNat) by omega, show cap - off - z.toNat = cap - (off + z.toNat) by omega], by omega, hmc, ?_⟩
    rcases hcase with ⟨r1, r2⟩ | ⟨b, oo, r1, r2, r3⟩
    · left; subst r2; refine ⟨r1, ?_⟩; split <;> rfl
    · right
      subst r2
      by_cases hc : cap - off = z.toNat
      · exact ⟨b, oo, r1, by rw [if_pos hc], .inr (by omega)⟩
      · refine ⟨b, oo + z.toNat * ti.size, r1, by rw [if_neg hc]; simp [yf], ?_⟩
        rcases r3 with r3 | r3
        · left; rw [r3, wc3]
        · right; omega
  have hl := hown.1
  rw [wch, hpl, wc3] at hl
  have hlv : vs.length = m * ti.size := by omega
  have hle : z.toNat * ti.size ≤ m * ti.size := wdd _ hz
  have hturn : Turn W H V w id ⟨ver + 1, some (.que e ti.size (m - z.toNat) (cs.drop (z.toNat * ti.size)))⟩ (.slice (if cap - off = z.toNat then ad' else ad'.map (·.add (z.toNat * ti.size))) (m - z.toNat) (cap - off - z.toNat)) w :=
    ⟨hr.heap.below, wb7 _, fun b _ _ => rfl, fun g hg => .inr ⟨by rw [hH]; rfl, by rw [hblk0, ← Jd hdr']; exact hg⟩, .inl (by rw [hH]; exact Nat.lt_succ_self _)⟩
  refine ve hex ⟨_, _, vg V id _, hk, hr.turn hturn (fun bd' hbd' => ?_) o.dst hdo ?_⟩
  · cases hbd'
    refine ⟨vs.drop (z.toNat * ti.size), ⟨v0, off + z.toNat, pre ++ vs.take (z.toNat * ti.size), ?_, ?_, hdr', ?_⟩, ?_⟩
    · rw [wcq, wd2, show off + z.toNat + (m - z.toNat) = off + m by omega]; exact hown
    · rw [wch, wdf, hpl, wc3, Nat.min_eq_left (by omega)]
    · rw [wcq, wd2]; exact h1
    · refine ⟨by simp [hR.1], fun i p v h3 h4 => ?_⟩
      rw [wcv] at h3 h4
      exact hturn.rp (hR.2 _ p v h3 h4)
  · refine .ps _ _ _ ?_ fun _ _ => ?_
    · simp [PHeap.set]
    · simp [vg]
theorem wbh {s x : Operand} {t e : TypeId} {k b d ver m m2 : Nat} {id : Nm} {z : Value} {cs cs2 : List PV} {K : PV → PHeap → Prop} (ho : o.op = .call { callee := .builtin .append, args := #[s, x], argTypes := #[t, t] }) (hd : o.dst = some d) (hdn : d < n) (ht : q6 P t = some (e, k, b, z))
    (hs : evP F s = .ps id ver) (hH : H id = ⟨ver, some (.que e k m cs)⟩) (hx : zmj H k (evP F x) = some (m2, cs2)) (hleaf : ∀ p ∈ cs2, yj H p = true) (h63 : m + m2 ≤ maxLen) (hbytes : (m + m2) * b ≤ 140737488355328)
    (hk : K (.ps id (ver + 1)) (H.set id ⟨ver + 1, some (.que e k (m + m2) (cs ++ cs2))⟩)) : PE P W n o F H K := fun V a w hr => by
  obtain ⟨i, hu, hi, hzz, hsz, rfl, hzs, hpos⟩ := yo ht
  have hsv : a.eval s = V id := by
    have := Rp.eval (P := P) (F := F) (a := a) (Z := W.Z) (H := H) (V := V) (w := w) s fun t _ => hr.slot t
    rw [hs] at this
    generalize a.eval s = q at this
    cases this with
    | ps _ _ _ hvv hh => exact hh (by rw [hH]; rfl) (by rw [hH])
  obtain ⟨v0, off, pre, vs, hown, hpl, hdr, h1, hR⟩ := zot hr.heap (bd := .que e k m cs) (by rw [hH]) (.inr rfl)
  obtain ⟨ad, c, hxv, hsrc⟩ := zcz hr.heap (Rp.eval (P := P) (F := F) (a := a) x fun t _ => hr.slot t) hx
  have hsrc2 : ∃ news, RpL W.Z H V w cs2 news ∧ (∀ u ∈ news, u.oneCell' = true) ∧ ((m2 = 0 ∧ news = []) ∨ ∃ b, ad = some b ∧ news.length = m2 * k ∧ (∀ j u, news[j]? = some u → w.cell? (b.add j) = some u) ∧ ∀ u ∈ news, u.oneCell' = true) := by
    rcases hsrc with ⟨rfl, rfl⟩ | ⟨b, news, e1, e2, hRn, e4⟩
    · exact ⟨[], ⟨rfl, fun i p v h => by simp at h⟩, (fun u hu => by cases hu), .inl ⟨rfl, rfl⟩⟩
    · have hone : ∀ u ∈ news, u.oneCell' = true := fun u hu => by
        obtain ⟨j, hj, rfl⟩ := wem hu
        have hj2 : j < cs2.length := by rw [hRn.1]; exact hj
        exact (hRn.2 j _ _ (wb5 hj2) (wb5 hj)).leaf hr.heap (hleaf _ (wei hj2))
      exact ⟨news, hRn, hone, .inr ⟨b, e1, e2, e4, hone⟩⟩
  obtain ⟨news, hRn, hone, hs2⟩ := hsrc2
  have hob := Jq hown
  have hblk0 := Jd hdr
  have hlv : vs.length = m * k := by
    have := hown.1
    rw [wch, hpl, wc3] at this; omega
  have hRapp : RpL W.Z H V w (cs ++ cs2) (vs ++ news) := RpL.append hR hRn
  have fin : ∀ (off' : Nat) (v' vf : Value) (w' : World) (pre' : List Value),
      (execOp a.eval o).run P w = .ok (.value v') w' → w'.ownsRow W.w.heap.size e k vf (off' + (m + m2)) (pre' ++ (vs ++ news)) → pre'.length = off' * k → w.grownBy w' v0.ownBlock →
      (∀ g, jv vf = some g → w.heap.size ≤ g ∨ jv v0 = some g) → zix off' k vf v' → (∀ u ∈ pre', u.oneCell' = true) →
      o.wp P a w (fun a' w' => ∃ p H' V', K p H' ∧ Rel P W n (F.put o.dst p) H' V' a' w') (fun _ _ _ => False) := by
    intro off' v' vf w' pre' hex hown' hpl' hgr hblk hdr' hc1
    refine ve hex ⟨_, _, vg V id v', hk, ?_⟩
    have hturn : Turn W H V w id ⟨ver + 1, some (.que e k (m + m2) (cs ++ cs2))⟩ v' w' := by
      refine ⟨hr.heap.below.grown hgr hr.heap.below.size fun kk hk => ?_, hgr.size, fun bb hlt hn => hgr.block bb hlt fun e' => hn ⟨by rw [hH]; rfl, by rw [hblk0, ← hob]; exact e'.symm⟩, fun g hg => ?_, .inl (by rw [hH]; exact Nat.lt_succ_self _)⟩
      · exact (hown.lt kk hk).1
      · rcases hblk g (by rw [← Jd hdr']; exact hg) with h | h
        · exact .inl h
        · exact .inr ⟨by rw [hH]; rfl, by rw [hblk0]; exact h⟩
    rw [hd]
    refine hr.turn hturn (fun bd hbd => ?_) (some d) (fun t ht => by cases ht; exact hdn) ?_
    · cases hbd
      refine ⟨vs ++ news, ⟨vf, off', pre', hown', hpl', hdr', fun u hu => ?_⟩, ⟨hRapp.1, fun i p v h3 h4 => hturn.rp (hRapp.2 i p v h3 h4)⟩⟩
      rcases wcr.1 hu with hu | hu
      · exact hc1 u hu
      · rcases wcr.1 hu with hu | hu
        · exact h1 u (List.mem_append_right _ hu)
        · exact hone u hu
    · refine .ps _ _ _ ?_ fun _ _ => ?_
      · simp [PHeap.set]
      · simp [vg]
  have hpre1 : ∀ u ∈ pre, u.oneCell' = true := fun u hu => h1 u (wd4 _ hu)
  obtain ⟨ad0, mm, cap, ad1, hV, hv1, hoff, hmc, hcase⟩ := hdr
  have hmm : mm = off + m := by
    rcases hown.2 with ⟨e1, e0⟩ | ⟨g, cap, cur, e1, _⟩ <;> rw [hV] at e1 <;> cases e1
    · omega
    · rfl
  subst hmm
  rw [wdg] at hv1
  have hexe : ∀ {v' w'}, (Builtin.append_ #[t, t] o.type #[.slice ad1 m (cap - off), .slice ad m2 c]).run P w = .ok v' w' → (execOp a.eval o).run P w = .ok (.value v') w' := fun hrun => by
    unfold execOp
    simp only [ho, resolve, invoke, builtin, Sem.run_bind, Sem.run_pure, Result.andThen_ok, wej, wcj, wdh, hsv, hv1, hxv, hrun]
  have hdr0 : zix off k v0 (.slice ad1 m (cap - off)) := ⟨_, _, _, _, hV, by rw [wdg], hoff, hmc, hcase⟩
  rcases hs2 with ⟨rfl, rfl⟩ | ⟨bb, rfl, hl, hc, h1n⟩
  · -- nothing is appended
    refine fin off (.slice ad1 m (cap - off)) v0 w pre (hexe ?_) (by simpa using hown) hpl ⟨rfl, rfl, rfl, wb7 _, fun _ _ _ => rfl⟩ (fun g hg => .inr hg) hdr0 hpre1
    rcases hcase with ⟨rfl, rfl⟩ | ⟨bk, oo, rfl, rfl, _⟩
    · rcases hown.2 with ⟨e1, h0⟩ | ⟨g', cap', cur', e1, _⟩ <;> rw [hV] at e1 <;> injection e1 with e2 e3 e4 <;> try (cases e2; done)
      have h0 : m = 0 := by omega
      subst h0; subst e4
      cases ad <;> simp [Builtin.append_, run_underlying hu, sizeOf, typeInfo, hi, Builtin.lenOf, Builtin.firstCells, loadCells, loadCellsFrom]
    · have : m ≤ cap - off := by omega
      cases ad <;> simp [Builtin.append_, run_underlying hu, sizeOf, typeInfo, hi, Builtin.lenOf, Builtin.firstCells, loadCells, loadCellsFrom, this, storeCells]
  · rcases hown.2 with ⟨e1, h0⟩ | ⟨g, cap', cur, e1, hbg, hg0, hcap, hcm, hcs, htake⟩
    · -- nil
      rw [hV] at e1
      injection e1 with e2 e3 e4
      subst e2; subst e4
      have hm0 : m = 0 := by omega
      have hoff0 : off = 0 := by omega
      subst hm0; subst hoff0
      have had : ad1 = none := by
        rcases hcase with ⟨_, r⟩ | ⟨_, _, r, _⟩
        · exact r
        · cases r
      subst had
      have hv0 : vs = [] := wcm (by simpa using hlv)
      subst hv0
      obtain ⟨v', w', hrun, h4, h5, h6⟩ := run_append_own (P := P) w W.w.heap.size t o.type e i z k i.bytes hu hi hzz hsz rfl hzs hpos (.slice none 0 0) 0 [] (World.ownsRow_nil _ _ _ _) bb m2 c news hl hc h1n (by omega) (by simpa using hbytes) hr.heap.below.size
      obtain ⟨v'', w'', hrun2, h42, _⟩ := run_append_own (P := P) w w.heap.size t o.type e i z k i.bytes hu hi hzz hsz rfl hzs hpos (.slice none 0 0) 0 [] (World.ownsRow_nil _ _ _ _) bb m2 c news hl hc h1n (by omega) (by simpa using hbytes) (wb7 _)
      rw [hrun] at hrun2
      cases hrun2
      have hfresh : ∀ g, jv v' = some g → w.heap.size ≤ g := fun g hg => by
        refine (h42.lt g ?_).1
        rw [Jq h42]; exact hg
      have hdr : zix 0 k v' v' := by
        rcases h4.2 with ⟨e1, e2⟩ | ⟨g', cap', cur', e1, _, _, e5, _⟩
        · exact ⟨none, 0, 0, none, e1, e1, wb7 _, wb7 _, .inl ⟨rfl, rfl⟩⟩
        · exact ⟨_, _, _, _, e1, e1, wdq _, e5, .inr ⟨g', 0, rfl, rfl, .inl (by simp)⟩⟩
      exact fin 0 v' v' w' [] (hexe hrun) (by simpa using h4) (by simp) (by rw [hV]; exact h5) (fun g hg => .inl (hfresh g hg)) hdr (fun u hu => by cases hu)
    · rw [hV] at e1
      cases e1
      obtain ⟨oo, rfl, hoo⟩ : ∃ oo, ad1 = some ⟨g, oo, none⟩ ∧ (oo = off * k ∨ cap = off) := by
        rcases hcase with ⟨r, _⟩ | ⟨b', o', r1, r2, r3⟩
        · cases r
        · cases r1; exact ⟨o', r2, r3⟩
      subst hsz
      by_cases hroom : off + m + m2 ≤ cap
      · by_cases hm2 : m2 = 0
        · subst hm2
          have hn0 : news = [] := wcm (by simpa using hl)
          subst hn0
          refine fin off (.slice (some ⟨g, oo, none⟩) m (cap - off)) v0 w pre (hexe ?_) (by simpa using hown) hpl ⟨rfl, rfl, rfl, wb7 _, fun _ _ _ => rfl⟩ (fun g hg => .inr hg) hdr0 hpre1
          have : m ≤ cap - off := by omega
          simp [Builtin.append_, run_underlying hu, sizeOf, typeInfo, hi, Builtin.lenOf, Builtin.firstCells, loadCells, loadCellsFrom, this, storeCells]
        · have hoo' : oo = off * i.size := by rcases hoo with h | h; exact h; omega
          subst hoo'
          have hfit : (off + m) * i.size + news.length ≤ cur.size := by rw [hl, hcs, ← wc3]; exact wdd _ hroom
          have hr1 := z1e (P := P) (c := c) (ty := o.type) hu hi hg0 hoff hl hc h1n hroom hfit
          rw [wdg] at hr1
          have hlen : (pre ++ (vs ++ news)).length = (off + (m + m2)) * i.size := by rw [wch, wch, hpl, hlv, hl, ← wc3, ← wc3]
          refine fin off _ (.slice (some ⟨g, 0, none⟩) (off + (m + m2)) cap) _ pre (hexe hr1) ⟨hlen, .inr ⟨g, cap, _, rfl, hbg, setRow_heap w g cur _ e _ hg0, by omega, hcm, ?_, ?_⟩⟩ hpl ⟨rfl, rfl, rfl, by simp, fun k _ hk => setRow_other w g k _ (fun e => hk (by rw [hV]; simp [Value.ownBlock, e]))⟩ (fun g' hg' => .inr (by rw [hV]; exact hg')) ⟨_, _, _, _, rfl, by rw [wdg], by omega, by omega, .inr ⟨g, _, rfl, rfl, .inl rfl⟩⟩ hpre1
          · simp only [wef, wch, wdf, wd9, Array.length_toList]
            omega
          · rw [htake, ← hlen]
            simp only [← wcq]
            exact List.take_left
      · have holds : ∀ j u, vs[j]? = some u → w.cell? ((⟨g, oo, none⟩ : Addr).add j) = some u := fun j u hj => by
          by_cases he : cap = off
          · have hmo : m = 0 := by omega
            rw [hmo, Nat.zero_mul] at hlv
            rw [wcm hlv] at hj; cases hj
          · have hoo' : oo = off * i.size := by rcases hoo with h | h; exact h; omega
            subst hoo'
            have := hown.cells (g := g) (by rw [hV]; rfl) (off * i.size + j) u (by rw [wce (by omega), hpl, wdg]; exact hj)
            rw [yf] at this
            rw [yf]
            simpa using this
        have h63' : ((m + m2 : Nat) : Int) ≤ 9223372036854775807 := by simp only [maxLen] at h63; omega
        have hr1 := run_append_grow (P := P) w t o.type e i z hu hi hzz ⟨g, oo, none⟩ m (cap - off) vs hlv holds bb m2 c news hl hc (by omega) h63' (growslice_fits (by omega) hbytes)
        obtain ⟨hg1, hg2⟩ := zxd (w := w) (base := W.w.heap.size) (e := e) hzs (old := cap - off) (by omega) hlv hl h63 hr.heap.below.size v0.ownBlock
        exact fin 0 _ _ _ [] (hexe hr1) (by rw [wcx, wc2]; exact hg1) (by simp) hg2 (fun g' hg' => .inl (by cases hg'; exact wb7 _)) ⟨_, _, _, _, rfl, rfl, wdq _, grownCap_ge w _ _ e, .inr ⟨_, 0, rfl, rfl, .inl (by simp)⟩⟩ (fun u hu => by cases hu)
def quel (G : EG) (id : Nat) : Option (TypeId × (t : Ty) × List t.D) := match (G id).b with
  | some (.row tid t l) => some (tid, ⟨t, l⟩)
  | some (.que tid t l) => some (tid, ⟨t, l⟩)
  | _ => none
theorem zxy {id : Nat} {r : TypeId × (t : Ty) × List t.D} (h : quel G id = some r) (hn : AgN H G id) : ∃ bd, H (.o id) = ⟨(G id).ver, some bd⟩ ∧ (bd = .row r.1 (wid r.2.1) r.2.2.length (r.2.2.flatMap (je r.2.1)) ∨ bd = .que r.1 (wid r.2.1) r.2.2.length (r.2.2.flatMap (je r.2.1))) := by
  unfold quel at h
  rw [hn.1]
  unfold qr
  split at h <;> cases h
  · rename_i hb; rw [hb]; exact ⟨_, rfl, .inl rfl⟩
  · rename_i hb; rw [hb]; exact ⟨_, rfl, .inr rfl⟩
def sQsl (es : Option Nat) (G : EG) (x y : TS) : Option SR := match x with
  | .own id ver => match Nat.beq (G id).ver ver with
    | true => match quel G id with
      | some r => match oeq es (some (wid r.2.1)) with
        | true => match Zo y with
          | some z => some (.memO Nat (zu2 r.2.2 z) (.own id (ver + 1)) id (fun j => ⟨ver + 1, some (.que r.1 r.2.1 (r.2.2.drop j))⟩) [])
          | none => none
        | false => none
      | none => none
    | false => none
  | _ => none
theorem zn5 {t : Ty} : ∀ (l : List t.D) (j : Nat), (l.drop j).flatMap (je t) = (l.flatMap (je t)).drop (j * wid t)
  | l, 0 => by simp
  | [], j + 1 => by simp
  | x :: l, j + 1 => by
    rw [List.drop_succ_cons, zn5 l j, wci, wek, Nat.add_comm, ← List.drop_drop, wdp (jn t x)]
theorem z3y {t : TypeId} {x y : Operand} {q : SR} (ho : o.op = .slice t x (some y) none none) (h : sQsl (esz P t) G (evE E x) (evE E y) = some q) : SOk P o E G q := by
  have hx' : x ∈ o.op.operands := by rw [ho]; simp [Op.operands]
  have hy' : y ∈ o.op.operands := by rw [ho]; simp [Op.operands]
  unfold sQsl at h
  split at h <;> try (cases h; done)
  rename_i id ver hx
  split at h <;> try (cases h; done)
  rename_i hv
  cases ju hv
  split at h <;> try (cases h; done)
  rename_i r hr
  split at h <;> try (cases h; done)
  rename_i hes
  have hes := za6 hes
  split at h <;> cases h
  rename_i z hz
  obtain ⟨kd, hkd⟩ := Jm hz
  refine SOk.memO fun j hj W n F H hdo hag => ?_
  unfold zu2 at hj
  split at hj <;> cases hj
  rename_i hb2
  simp only [wb6, wc9] at hb2
  obtain ⟨bd, h1, h2⟩ := zxy hr (hag.hn id (by simp))
  refine wbp (id := .o id) (ver := (G id).ver) ho hdo hes (by rw [hag.ev hx', hx]; simp only [TS.den]) h1 h2 (by rw [hag.ev hy', hkd]) hb2.1 (by omega) ⟨by simp only [TS.den], ?_⟩
  unfold qr
  simp only [wcd, BD.den, wd9, zn5]
def sQap (se : SE) (o : Oper) (G : EG) (s x : TS) : Option SR := match vz o with
  | false => none
  | true => match se with
    | none => none
    | some (e, k, b, _) => match s with
      | .own id ver => match Nat.beq (G id).ver ver with
        | true => match (G id).b with
          | some (.que tid ty l) => match Nat.beq tid e && (Nat.beq (wid ty) k && Ya ty) with
            | true => match zsq ty G x with
              | some r => some (.memO (List ty.D) (apO b l r.1) (.own id (ver + 1)) id (fun l' => ⟨ver + 1, some (.que tid ty l')⟩) r.2)
              | none => none
            | false => none
          | _ => none
        | false => none
      | _ => none
theorem z4o {t : Nat} {s x : Operand} {q : SR} (ho : o.op = .call { callee := .builtin .append, args := #[s, x], argTypes := #[t, t] }) (h : sQap (q6 P t) o G (evE E s) (evE E x) = some q) : SOk P o E G q := by
  have hs' : s ∈ o.op.operands := by rw [ho]; simp [Op.operands, Call.operands]
  have hx' : x ∈ o.op.operands := by rw [ho]; simp [Op.operands, Call.operands]
  unfold sQap at h
  split at h
  · cases h
  rename_i hd
  obtain ⟨d, hd⟩ := qz hd
  split at h
  · cases h
  rename_i e k b z hse
  split at h <;> try (cases h; done)
  rename_i id ver hs
  split at h <;> try (cases h; done)
  rename_i hv
  cases ju hv
  split at h <;> try (cases h; done)
  rename_i tid ty l hb
  split at h <;> try (cases h; done)
  rename_i hc
  simp only [wb6] at hc
  have e1 := wb2 hc.1
  have e2 := wb2 hc.2.1
  subst e1; subst e2
  split at h <;> cases h
  rename_i r hr
  refine SOk.memO fun l' hl' W n F H hdo hag => ?_
  obtain ⟨b1, b2, rfl⟩ := Vb hl'
  have hsrc := zds (H := H) hr rfl fun i hi => hag.h i (by simp [hi])
  refine wbh (id := .o id) (ver := (G id).ver) (m := l.length) (m2 := r.1.length) (cs := l.flatMap (je ty)) (cs2 := r.1.flatMap (je ty)) ho hd (hdo d hd) hse (by rw [hag.ev hs', hs]; simp only [TS.den]) (by rw [hag.h id (by simp)]; unfold qr; rw [hb]; rfl) (by rw [hag.ev hx']; exact hsrc) (Y4 hc.2.2 _) b1 b2 ⟨by simp only [TS.den], ?_⟩
  simp only [qr, wcd, BD.den, wch, wdc]
end
def z4m (P : Program) (o : Oper) (E : EF) (G : EG) : Option SK := match o.op with
  | .slice t x (some y) none none => match sQsl (esz P t) G (evE E x) (evE E y) with
    | some q => some (q.k G)
    | none => none
  | .call ⟨.builtin .append, ⟨[s, x]⟩, ⟨[t, t']⟩⟩ => match Nat.beq t t' with
    | true => match sQap (q6 P t) o G (evE E s) (evE E x) with
      | some q => some (q.k G)
      | none => none
    | false => none
  | _ => none
theorem zws {P : Program} {o : Oper} {E : EF} {G : EG} {r : SK} (h : z4m P o E G = some r) : zer P o E G r := by
  unfold z4m at h
  split at h
  · rename_i t x y ho
    split at h <;> cases h
    rename_i q hq
    exact (z3y ho hq).k
  · rename_i s x t t' ho
    split at h <;> try (cases h; done)
    rename_i ht
    cases ju ht
    split at h <;> cases h
    rename_i q hq
    exact (z4o ho hq).k
  · cases h
section
variable {P : Program} {W : Env} {n : Nat} {o : Oper} {E : EF} {F : PFrame} {H : PHeap} {G : EG}
theorem zhw {kt t : Ty} {it kv i v : Nat} {es : List (kt.D × List t.D × Unit)} {h : Hole} : (BD.mrows kt it t es kv h).den i v = y6 (es.map fun e => oV kt e.1) (range es.length) es.length ((range es.length).map (h.cell i v)) := rfl
theorem zdp {id it kv : Nat} {kt t : Ty} {es : List (kt.D × List t.D × Unit)} {h : Hole} (hn : AgN H G id) (hb : (G id).b = some (.mrows kt it t es kv h)) :
    H (.o id) = ⟨(G id).ver, some (y6 (es.map fun e => oV kt e.1) (range es.length) es.length ((range es.length).map (h.cell id (G id).cv)))⟩ ∧ (G id).cv = (G id).ver + kv ∧ (∀ j, (H (.c id j)).ver = (G id).cv) ∧ ∀ j r, h.is j = false → (es.map fun e => e.2.1)[j]? = some r → H (.c id j) = ⟨(G id).cv, some (.row it (wid t) r.length (r.flatMap (je t)))⟩ := by
  refine ⟨?_, by unfold GB.cv; rw [hb]; rfl, fun j => by rw [hn.2]; rfl, fun j r h1 h2 => ?_⟩
  · rw [hn.1, ← zhw (it := it) (kv := kv)]; unfold qr; rw [hb]; rfl
  · rw [wb9] at h2
    obtain ⟨e, h3, rfl⟩ := wca.1 h2
    rw [hn.2]; unfold Qp; rw [hb]; simp [BD.ch, h1, h3]
theorem Zb {H1 H2 : PHeap} {σ : Nm → Option Nm} {D : List Nat} {id it ver ver1 kv : Nat} {kt t : Ty} {es : List (kt.D × List t.D × Unit)} {h : Hole} {cs : List PV}
    (hout : ∀ k, ¬ Of (id :: D) k → H2 k = H1 k ∧ σ k = some k) (hid : ∀ k : Nm, k.rt = some id → H2 k = ym ⟨ver, some (.mrows kt it t es kv h)⟩ k)
    (hD : ∀ k, Of D k → ((H2 k).body = none ∧ (H1 k).ver ≤ (H2 k).ver) ∨ ((H1 k).ver < (H2 k).ver ∧ ∃ x bd, σ k = some x ∧ Of (id :: D) x ∧ (H2 k).body = some bd ∧ (H1 x).body = some bd ∧ ∀ c ∈ bd.cs, NoP c))
    (h1 : H1 (.o id) = ⟨ver1, some (y6 (es.map fun e => oV kt e.1) (range es.length) es.length cs)⟩) (hver : ver1 ≤ ver) (hσ : σ (.o id) = some (.o id)) (hv : ∀ j, (H1 (.c id j)).ver < ver + kv) (hlen : cs.length = es.length)
    (hc : ∀ j r, h.is j = false → (es.map fun e => e.2.1)[j]? = some r → (∃ x v, cs[j]? = some (.ps x v) ∧ σ (.c id j) = some x ∧ Of (id :: D) x ∧ H1 x = ⟨v, some (.row it (wid t) r.length (r.flatMap (je t)))⟩) ∨ (r = [] ∧ cs[j]? = some (.u (.slice none 0 0)) ∧ σ (.c id j) = none))
    (hinj : ∀ k k' x, Of (id :: D) k → Of (id :: D) k' → (H2 k).body.isSome = true → (H2 k').body.isSome = true → σ k = some x → σ k' = some x → k = k') : Tell (id :: D) H1 H2 σ := by
  refine zok (l := es.map fun e => e.2.1) (bd1 := y6 (es.map fun e => oV kt e.1) (range es.length) es.length cs) (bd2 := (BD.mrows kt it t es kv h).den id (ver + kv)) hout (hid (.o id) rfl) (fun j => ?_) hD h1 hver hσ hv (by simpa [y6, PBody.cs] using hlen) (fun w m v vs h => ?_) (by rw [zhw]; simp [y6, PBody.cs]) hc hinj
  · rw [hid _ rfl]
    simp only [ym, Qp, wc4, BD.ch, kidB, wb9, Option.map_map]
    congr 1
  · rw [zhw]; exact h
structure MR (kt : Ty) where
  id : Nat
  it : TypeId
  t : Ty
  es : List (kt.D × List t.D × Unit)
  kv : Nat
def z3o (G : EG) (kt : Ty) : TS → Option (MR kt)
  | .own id ver => match Nat.beq (G id).ver ver with
    | true => match (G id).b with
      | some (.mrows kt' it t es kv none) => match Dyn.as ⟨mty kt' t, es⟩ (mty kt t) with
        | some es => some ⟨id, it, t, es, kv⟩
        | none => none
      | _ => none
    | false => none
  | _ => none
theorem zph {kt : Ty} {x : TS} {r : MR kt} (h : z3o G kt x = some r) : x = .own r.id (G r.id).ver ∧ (G r.id).b = some (.mrows kt r.it r.t r.es r.kv none) := by
  unfold z3o at h
  split at h <;> try (cases h; done)
  split at h <;> try (cases h; done)
  rename_i hv
  split at h <;> try (cases h; done)
  rename_i hb
  split at h <;> cases h
  rename_i hd
  have := wac hd
  injection this with e1 e2
  injection e1 with e1
  injection e1 with e1
  injection e1 with e1
  subst e1
  have e2 := eq_of_heq e2
  subst e2
  rw [ju hv]
  exact ⟨rfl, hb⟩
def z1a {κ α : Type} (eqb : κ → κ → Bool) (k : κ) (es : List (κ × List α × Unit)) : Option (Nat × List (κ × List α × Unit)) := match kIx eqb k (es.map fun e => e.1) with
  | some j => some (j, es)
  | none => some (es.length, es ++ [(k, [], ())])
def nilZ (P : Program) (e : TypeId) : Bool := match (P.info? e).bind (·.zero) with
  | some z => zxx z
  | none => false
theorem z3q {e : TypeId} (h : nilZ P e = true) : ∀ w, (zeroValue e).run P w = .ok (.slice none 0 0) w := by
  unfold nilZ at h
  split at h
  · rename_i z hz
    cases zkp h
    obtain ⟨i, hi, hiz⟩ := wda.1 hz
    intro w
    unfold zeroValue
    rw [Sem.run_bind, run_typeInfo w hi]
    simp only [Result.andThen_ok, hiz]
    rfl
  · cases h
def sMen (P : Program) (ky : TypeId → Option KY) (t : TypeId) (G : EG) (x y : TS) : Option SR := match zfg P t with
  | none => none
  | some ke => match ky ke.1 with
    | none => none
    | some q => match z3o G q.kt x with
      | none => none
      | some m => match nilZ P ke.2 with
        | false => none
        | true => match toT q.kt y with
          | none => none
          | some k => some ⟨Nat × List (q.kt.D × List m.t.D × Unit), false, z1a q.eqb k m.es, fun y => .tup [.kid m.id (y.1 : Int) ((G m.id).cv + 1), .v ⟨.int .i64, (y.1 : Int)⟩], fun y => [(m.id, ⟨(G m.id).ver, some (.mrows q.kt m.it m.t y.2 (m.kv + 1) none)⟩)], [], [m.id], []⟩
theorem z10 {ky : TypeId → Option KY} (hky : znl P ky) {t : TypeId} {x y : Operand} {q : SR} (ho : o.op = .mapEntry t x y) (h : sMen P ky t G (evE E x) (evE E y) = some q) : SPk P o E G q := by
  have hx' : x ∈ o.op.operands := by rw [ho]; simp [Op.operands]
  have hy' : y ∈ o.op.operands := by rw [ho]; simp [Op.operands]
  unfold sMen at h
  split at h <;> try (cases h; done)
  rename_i ke hke
  split at h <;> try (cases h; done)
  rename_i kq hq
  split at h <;> try (cases h; done)
  rename_i m hm
  split at h <;> try (cases h; done)
  rename_i hz
  split at h <;> cases h
  rename_i k hk
  obtain ⟨hpk, hK⟩ := hky _ _ hq
  have hz := z3q hz
  have ht := zas hke
  obtain ⟨e1, e2⟩ := zph hm
  obtain ⟨id, it, ty, es, kv⟩ := m
  simp only at e1 e2
  refine ⟨fun _ => rfl, fun (r : Nat × List (kq.kt.D × List ty.D × Unit)) (hr : z1a kq.eqb k es = some r) W n F H hfl hdo hag => ?_⟩
  have hn := hag.hn id (by simp)
  obtain ⟨r1, r2, r3, r4⟩ := zdp hn e2
  have hkey : ∀ (Z : ZM) (V : Nm → Value) (w : World) (v : Value), Rp Z H V w (evP F y) v → v = oV kq.kt k := fun Z V w v hv => by
    rw [hag.ev hy'] at hv
    exact zfk hk hpk hv
  have hxv : evP F x = .ps (.o id) (G id).ver := by rw [hag.ev hx', e1]; simp only [TS.den]
  have hH : H (.o id) = ⟨(G id).ver, some (y6 ((es.map fun e => e.1).map (oV kq.kt)) (range es.length) es.length ((range es.length).map (Hole.cell id (G id).cv none)))⟩ := by rw [r1, wc7]; rfl
  show PE P W n o F H fun p' H' => p' = (TS.tup [.kid id (r.1 : Int) ((G id).cv + 1), .v ⟨.int .i64, (r.1 : Int)⟩]).den ∧ H' = qf H [(id, ⟨(G id).ver, some (.mrows kq.kt it ty r.2 (kv + 1) none)⟩)]
  have hset : ∀ (k : Nm) (es2 : List (kq.kt.D × List ty.D × Unit)), k.rt = some id → qf H [(id, ⟨(G id).ver, some (.mrows kq.kt it ty es2 (kv + 1) none)⟩)] k = ym ⟨(G id).ver, some (.mrows kq.kt it ty es2 (kv + 1) none)⟩ k := fun k es2 hk => vn (by simp) (by simp) hk
  unfold z1a at hr
  split at hr <;> cases hr
  · rename_i j hj
    have hjl : j < es.length := by
      obtain ⟨_, h1, _⟩ := zcm hj
      simpa using (wb3.1 h1).1
    have key : PE P W n o F H fun p' H' => p' = .tup [.ps (.c id j) (G id).cv, .u (.int .i64 (j : Nat))] ∧ H' = H :=
      wan hdo (wa9 hK ho ht hH hxv hkey hj (by rw [J0 hjl]; rfl) (by simp [hjl])) ⟨rfl, rfl⟩
    refine waf (ids := [id]) (σ := some) key hfl hfl.h hdo (Zb (D := []) (ver := (G id).ver) (ver1 := (G id).ver) (kv := kv + 1) (it := it) (kt := kq.kt) (t := ty) (es := es) (h := none) (cs := (range es.length).map (Hole.cell id (G id).cv none)) (fun k hk => ⟨yu fun i hi e => hk ⟨i, hi, e⟩, rfl⟩) (fun k hk => hset k es hk) (fun k ⟨i, hi, _⟩ => by cases hi) r1 (wb7 _) rfl (fun j => by rw [r3, r2]; omega) (by simp) (fun j r hj hr => .inl ⟨.c id j, (G id).cv, ?_, rfl, ⟨id, by simp, rfl⟩, r4 j r rfl hr⟩) fun k k' x _ _ _ _ e1 e2 => by cases e1; cases e2; rfl) ?_
    · rw [J0 (by simpa using (wb3.1 hr).1)]; rfl
    · simp only [TS.den, q8]
      refine .tup rfl fun i p q h1 h2 => ?_
      match i, h1, h2 with
      | 0, h1, h2 =>
        cases h1; cases h2
        refine .nm rfl (fun _ => by rw [r4 j _ rfl (by rw [wb9, wb5 hjl]; rfl)]; exact ⟨rfl, rfl⟩) ?_
        rw [hset _ _ rfl]
        show (G id).cv + 1 ≤ (G id).ver + (kv + 1)
        omega
      | 1, h1, h2 => cases h1; cases h2; exact .keep (.noP (.u _))
  · rename_i hj
    have key : PE P W n o F H fun p' H' => p' = .tup [.u (.slice none 0 0), .u (.int .i64 (es.length : Nat))] ∧ H' = H.set (.o id) ⟨(G id).ver, some (y6 ((es.map (fun e => e.1) ++ [k]).map (oV kq.kt)) (range es.length ++ [es.length]) (es.length + 1) ((range es.length).map (Hole.cell id (G id).cv none) ++ [.u (.slice none 0 0)]))⟩ :=
      wa4 hK ho hdo ht hz hH hxv hkey hj ⟨rfl, rfl⟩
    have hs : ∀ {k' x : Nm}, (if k' = .c id es.length then none else some k') = some x → x = k' := fun {k' x} h => by
      split at h <;> cases h; rfl
    refine waf (ids := [id]) (σ := fun k' => if k' = .c id es.length then none else some k') key hfl (fun k' => ?_) hdo (Zb (D := []) (ver := (G id).ver) (ver1 := (G id).ver) (kv := kv + 1) (it := it) (kt := kq.kt) (t := ty) (es := es ++ [(k, [], ())]) (h := none) (cs := (range es.length).map (Hole.cell id (G id).cv none) ++ [.u (.slice none 0 0)]) (fun k' hk' => ?_) (fun k' hk' => hset k' _ hk') (fun k ⟨i, hi, _⟩ => by cases hi) ?_ (wb7 _) (by rw [if_neg (by simp)]) (fun j => by rw [v8 (by simp), r3, r2]; omega) (by simp) (fun j r _ hr => ?_) fun k k' x _ _ _ _ e1 e2 => by rw [← hs e1, ← hs e2]) ?_
    · unfold PHeap.set
      split
      · intro bd hb c hc
        cases hb
        rcases wcr.1 (show c ∈ (range es.length).map (Hole.cell id (G id).cv none) ++ [.u (.slice none 0 0)] from hc) with h | h
        · exact zfm _ h
        · simp only [wcb] at h; subst h; exact .noP (.u _)
      · exact hfl.h k'
    · rw [v8 fun e => hk' ⟨id, by simp, by rw [e]; rfl⟩, if_neg fun e => hk' ⟨id, by simp, by rw [e]; rfl⟩]
      exact ⟨yu fun i hi e => hk' ⟨i, hi, e⟩, rfl⟩
    · unfold PHeap.set
      rw [if_pos rfl]
      simp [List.range_succ, Function.comp_def]
    · rcases Nat.lt_or_ge j es.length with hj' | hj'
      · rw [wdu, wcc (by simpa using hj')] at hr
        refine .inl ⟨.c id j, (G id).cv, ?_, by rw [if_neg (by simp; omega)], ⟨id, by simp, rfl⟩, by rw [v8 (by simp)]; exact r4 j r rfl hr⟩
        rw [wcc (by simpa using hj'), J0 hj']; rfl
      · have hlt := (wb3.1 hr).1
        simp at hlt
        have : j = es.length := by omega
        subst this
        simp at hr
        exact .inr ⟨hr, by simp, by rw [if_pos rfl]⟩
    · simp only [TS.den, q8]
      refine .tup rfl fun i p q h1 h2 => ?_
      match i, h1, h2 with
      | 0, h1, h2 =>
        cases h1; cases h2
        refine .nil (by simp) ?_
        rw [hset _ _ rfl]
        show (G id).cv + 1 ≤ (G id).ver + (kv + 1)
        omega
      | 1, h1, h2 => cases h1; cases h2; exact .keep (.noP (.u _))
def zxj {κ α : Type} (es : List (κ × List α × Unit)) (p : Nat) (z : Int) (r : List α) : Option (List (κ × List α × Unit)) := match decide (z = (p : Int)) with
  | true => match es[p]? with
    | some e => some (es.set p (e.1, r, ()))
    | none => none
  | false => none
theorem zx8 {κ α : Type} {es es' : List (κ × List α × Unit)} {p : Nat} {z : Int} {r : List α} (h : zxj es p z r = some es') : z = (p : Int) ∧ ∃ e, es[p]? = some e ∧ es' = es.set p (e.1, r, ()) := by
  unfold zxj at h
  split at h <;> try (cases h; done)
  rename_i hz
  split at h <;> cases h
  rename_i e he
  exact ⟨wc8 hz, e, he, rfl⟩
def sMes (G : EG) (x s y : TS) : Option SR := match x with
  | .own id ver => match Nat.beq (G id).ver ver with
    | true => match (G id).b with
      | some (.mrows kt it t es kv (some p)) => match zhv G it t y with
        | some r => match s with
          | .v ⟨.int .i64, z⟩ => match Nat.beq r.1 id with
            | false => some ⟨List (kt.D × List t.D × Unit), false, zxj es p z r.2, fun _ => UND, fun es' => [(id, ⟨(G id).ver, some (.mrows kt it t es' (kv + 1) none)⟩), (r.1, ⟨(G r.1).cv + 1, none⟩)], [], [id, r.1], []⟩
            | true => none
          | _ => none
        | none => none
      | _ => none
    | false => none
  | _ => none
theorem zqp {α β : Type} {f : α → β} {l : List α} {p : Nat} {e e' : α} (h : l[p]? = some e) (hf : f e' = f e) : (l.set p e').map f = l.map f := by
  apply wdt
  intro i
  rw [wb9, wb9, wee]
  split
  · rename_i hi; subst hi
    rw [h, if_pos (wb3.1 h).1]; simp [hf]
  · rfl
theorem z36 {t : TypeId} {x s y : Operand} {q : SR} (ho : o.op = .entryStore t x s y) (h : sMes G (evE E x) (evE E s) (evE E y) = some q) : SPk P o E G q := by
  have hx' : x ∈ o.op.operands := by rw [ho]; simp [Op.operands]
  have hs' : s ∈ o.op.operands := by rw [ho]; simp [Op.operands]
  have hy' : y ∈ o.op.operands := by rw [ho]; simp [Op.operands]
  unfold sMes at h
  split at h <;> try (cases h; done)
  rename_i id ver hx
  split at h <;> try (cases h; done)
  rename_i hv
  cases ju hv
  split at h <;> try (cases h; done)
  rename_i kt it ty es kv p hb
  split at h <;> try (cases h; done)
  rename_i r hr
  obtain ⟨c, r⟩ := r
  obtain ⟨hy, hcb⟩ := Z5 hr
  split at h <;> try (cases h; done)
  rename_i z hz
  split at h <;> cases h
  rename_i hne
  have hne : c ≠ id := fun e => by subst e; simp at hne
  refine ⟨fun _ => rfl, fun (es' : List (kt.D × List ty.D × Unit)) (hes : zxj es p z r = some es') W n F H hfl hdo hag => ?_⟩
  obtain ⟨rfl, e, he, rfl⟩ := zx8 hes
  have hlt := (wb3.1 he).1
  have hn := hag.hn id (by simp)
  have hnc := hag.hn c (by simp)
  obtain ⟨r1, r2, r3, r4⟩ := zdp hn hb
  have ro := zr9 hnc hcb
  have hyv : evP F y = .ps (.o c) (G c).ver := by rw [hag.ev hy', hy]; simp only [TS.den]
  have key : PE P W n o F H fun p' H' => p' = UND.den ∧ H' = H.set (.o id) ⟨(G id).ver, some (y6 (es.map fun e => oV kt e.1) (range es.length) es.length (((range es.length).map (Hole.cell id (G id).cv (some p))).set p (.ps (.o c) (G c).ver)))⟩ :=
    PE.entryStore (j := p) (b := p) ho hdo r1 (by rw [hag.ev hx', hx]; simp only [TS.den]) (by rw [hag.ev hs', hz]; simp only [TS.den]; rfl) (by simp [hlt]) hyv ⟨by rw [und_den], rfl⟩
  have hnd : (([(id, (⟨(G id).ver, some (.mrows kt it ty (es.set p (e.1, r, ())) (kv + 1) none)⟩ : GB)), (c, ⟨(G c).cv + 1, none⟩)] : List (Nat × GB)).map Prod.fst).Nodup := by simp [Ne.symm hne]
  have h2c : ∀ k : Nm, k.rt = some c → qf H [(id, ⟨(G id).ver, some (.mrows kt it ty (es.set p (e.1, r, ())) (kv + 1) none)⟩), (c, ⟨(G c).cv + 1, none⟩)] k = ym ⟨(G c).cv + 1, none⟩ k := fun k hk => vn hnd (by simp) hk
  show PE P W n o F H fun p' H' => p' = UND.den ∧ H' = qf H [(id, ⟨(G id).ver, some (.mrows kt it ty (es.set p (e.1, r, ())) (kv + 1) none)⟩), (c, ⟨(G c).cv + 1, none⟩)]
  refine waf (ids := [id, c]) (σ := fun k => if k = .c id p then some (.o c) else some k) key hfl (fun k' => ?_) hdo (Zb (D := [c]) (ver := (G id).ver) (ver1 := (G id).ver) (kv := kv + 1) (it := it) (kt := kt) (t := ty) (es := es.set p (e.1, r, ())) (h := none) (cs := ((range es.length).map (Hole.cell id (G id).cv (some p))).set p (.ps (.o c) (G c).ver)) (fun k hk => ?_) (fun k hk => vn hnd (by simp) hk) (fun k hk => .inl ?_) ?_ (wb7 _) (by simp) (fun j => by rw [v8 (by simp), r3, r2]; omega) (by simp) (fun j r' _ hr' => .inl ?_) fun k k' x hk hk' hl1 hl2 e1 e2 => ?_) (.keep (Jv _))
  · unfold PHeap.set
    split
    · intro bd hb2 c2 hc2
      cases hb2
      rcases List.mem_or_eq_of_mem_set (show c2 ∈ ((range es.length).map (Hole.cell id (G id).cv (some p))).set p (.ps (.o c) (G c).ver) from hc2) with h | h
      · exact zfm _ h
      · subst h; exact .ps trivial
    · exact hfl.h k'
  · rw [v8 fun e => hk ⟨id, by simp, by rw [e]; rfl⟩, if_neg fun e => hk ⟨id, by simp, by rw [e]; rfl⟩]
    exact ⟨yu fun i hi e => hk ⟨i, hi, e⟩, rfl⟩
  · obtain ⟨i, hi, e⟩ := hk
    simp only [wcb] at hi; subst hi
    rw [v8 fun e2 => by rw [e2] at e; cases e; exact hne rfl]
    exact zid hnc h2c e
  · unfold PHeap.set
    rw [if_pos rfl, zqp (f := fun e : kt.D × List ty.D × Unit => oV kt e.1) (e' := (e.1, r, ())) he rfl, wd0]
  · by_cases ej : j = p
    · subst ej
      rw [wb9, wea hlt] at hr'
      cases hr'
      refine ⟨.o c, _, by rw [wea (by simpa using hlt)], by rw [if_pos rfl], ⟨c, by simp, rfl⟩, ?_⟩
      rw [v8 (by simp [hne]), ro]
    · rw [wb9, wd5 (Ne.symm ej)] at hr'
      have hr' : (es.map fun e => e.2.1)[j]? = some r' := by rw [wb9]; exact hr'
      have hh : Hole.is (some p) j = false := by
        simp only [Hole.is]
        cases h : Nat.beq j p
        · rfl
        · exact absurd (ju h) ej
      refine ⟨.c id j, (G id).cv, ?_, by rw [if_neg (by simp [ej])], ⟨id, by simp, rfl⟩, ?_⟩
      · rw [wd5 (Ne.symm ej), J0 (by simpa using (wb3.1 hr').1)]
        unfold Hole.cell; rw [hh]
      · rw [v8 (by simp)]; exact r4 j r' hh hr'
  · have hno : ∀ {k : Nm}, (qf H [(id, ⟨(G id).ver, some (.mrows kt it ty (es.set p (e.1, r, ())) (kv + 1) none)⟩), (c, ⟨(G c).cv + 1, none⟩)] k).body.isSome = true → k ≠ .o c := fun {k} hk e => by
      subst e; rw [(zid hnc h2c (k := .o c) rfl).1] at hk; cases hk
    split at e1 <;> split at e2
    · rename_i a b; rw [a, b]
    · cases e1; cases e2; exact absurd rfl (hno hl2)
    · cases e1; cases e2; exact absurd rfl (hno hl1)
    · cases e1; cases e2; rfl
def sMmk (fl : Option (Ty × TypeId × Ty)) (o : Oper) (G : EG) (nid : Nat) : Option SR := match fl with
  | none => none
  | some (kt, it, t) => match vz o with
    | true => some ⟨Unit, true, some (), fun _ => .own nid (nv G nid), fun _ => [(nid, ⟨nv G nid, some (.mrows kt it t [] (kv0 G nid) none)⟩)], [], [nid], []⟩
    | false => none
theorem z3i {fl : Option (Ty × TypeId × Ty)} {t : TypeId} {nid : Nat} {q : SR} (ho : o.op = .makeMap t none) (h : sMmk fl o G nid = some q) : SPk P o E G q := by
  unfold sMmk at h
  split at h <;> try (cases h; done)
  rename_i kt it ty
  split at h <;> cases h
  rename_i hds
  obtain ⟨dd, hdd⟩ := qz hds
  refine ⟨fun _ => rfl, fun _ _ W n F H hfl hdo hag => ?_⟩
  have hn := hag.hn nid (by simp)
  have hver : (H (.o nid)).ver + 1 = nv G nid := by rw [hn.1]; rfl
  have key : PE P W n o F H fun p' H' => p' = (TS.own nid (nv G nid)).den ∧ H' = H.set (.o nid) ⟨nv G nid, some (y6 [] [] 0 [])⟩ := fun V a w hr => by
    have hex : (execOp a.eval o).run P w = .ok (.value (.map (some w.heap.size))) (w.alloc (.map #[] 0)) := by
      simp only [execOp, ho]; rfl
    refine ve hex ⟨.ps (.o nid) (nv G nid), H.set (.o nid) ⟨(H (.o nid)).ver + 1, some (y6 [] [] 0 [])⟩, vg V (.o nid) (.map (some w.heap.size)), ⟨by simp only [TS.den], by rw [hver]⟩, ?_⟩
    have hb : Below w.heap.size w (w.alloc (.map #[] 0)) := (Below.refl _ _).alloc (wb7 _) _
    refine hr.turn (Turn.new hr.heap hb rfl fun g hg => by cases hg; exact wb7 _) (fun bd hbd => ?_) o.dst (fun t ht => by exact hdo t ht) ?_
    · cases hbd
      exact ⟨w.heap.size, _, [], rfl, hr.heap.below.size, heap_alloc_new w _, ⟨#[], rfl, rfl, rfl, rfl, List.nodup_nil, fun b hb => by cases hb⟩, rfl, fun i p v h => by simp at h⟩
    · refine .ps _ _ _ ?_ fun _ _ => ?_
      · simp [PHeap.set, hver]
      · simp [vg]
  refine waf (ids := [nid]) (σ := some) key hfl (fun k' => ?_) hdo (Zb (D := []) (ver := nv G nid) (ver1 := nv G nid) (kv := kv0 G nid) (it := it) (kt := kt) (t := ty) (es := []) (h := none) (cs := []) (fun k hk => ?_) (fun k hk => vn (by simp) (by simp) hk) (fun k ⟨i, hi, _⟩ => by cases hi) (by unfold PHeap.set; rw [if_pos rfl]; rfl) (wb7 _) rfl (fun j => ?_) rfl (fun j r _ hr => by simp at hr) fun k k' x _ _ _ _ e1 e2 => by cases e1; cases e2; rfl) (.keep (Jv _))
  · unfold PHeap.set
    split
    · intro bd hb c hc; cases hb; cases hc
    · exact hfl.h k'
  · rw [v8 fun e => hk ⟨nid, by simp, by rw [e]; rfl⟩]
    exact ⟨yu fun i hi e => hk ⟨i, hi, e⟩, rfl⟩
  · rw [v8 (by simp), hn.2]
    have := (G nid).ver_le
    simp only [Qp, nv, kv0]; omega
def sMka (se : SE) (o : Oper) (G : EG) (nid : Nat) (s x : TS) : Option SR := match vz o with
  | false => none
  | true => match se with
    | none => none
    | some (e, k, b, _) => match s with
      | .kid id p v => match Nat.beq (G id).cv v && !(Nat.beq nid id) with
        | true => match (G id).b with
          | some (.mrows kt it t es kv none) => match Nat.beq it e && (Nat.beq (wid t) k && Ya t) with
            | true => match zsq t G x with
              | some r => some ⟨List t.D, false, kapO b (Kids.at ⟨t, it, es.map fun e => e.2.1, none⟩ p) r.1, fun _ => .own nid ((G nid).cv + 1), fun l' => [(id, ⟨(G id).ver, some (.mrows kt it t es (kv + 2) (some p.toNat))⟩), (nid, ⟨(G nid).cv + 1, some (.row it t l')⟩)], r.2, [id, nid], []⟩
              | none => none
            | false => none
          | _ => none
        | false => none
      | _ => none
theorem z2r {t : Nat} {s x : Operand} {nid : Nat} {q : SR} (ho : o.op = .call { callee := .builtin .append, args := #[s, x], argTypes := #[t, t] }) (h : sMka (q6 P t) o G nid (evE E s) (evE E x) = some q) : SPk P o E G q := by
  have hs' : s ∈ o.op.operands := by rw [ho]; simp [Op.operands, Call.operands]
  have hx' : x ∈ o.op.operands := by rw [ho]; simp [Op.operands, Call.operands]
  unfold sMka at h
  split at h
  · cases h
  rename_i hd
  obtain ⟨d, hd⟩ := qz hd
  split at h
  · cases h
  rename_i e k b z hse
  split at h <;> try (cases h; done)
  rename_i id p v hs
  split at h <;> try (cases h; done)
  rename_i hv
  simp only [wb6, wc5] at hv
  cases ju hv.1
  have hne : nid ≠ id := fun e => by subst e; simp at hv
  split at h <;> try (cases h; done)
  rename_i kt it ty es kv hb
  split at h <;> try (cases h; done)
  rename_i hc
  simp only [wb6] at hc
  have e1 := wb2 hc.1
  have e2 := wb2 hc.2.1
  subst e1; subst e2
  split at h <;> cases h
  rename_i xs hr
  refine ⟨fun _ => rfl, fun l' hl' W n F H hfl hdo hag => ?_⟩
  obtain ⟨r, hr0, hl'⟩ := qg hl'
  obtain ⟨b1, b2, rfl⟩ := Vb hl'
  have hn := hag.hn id (by simp)
  have hnn := hag.hn nid (by simp)
  obtain ⟨r1, r2, r3, r4⟩ := zdp hn hb
  have hbody := zaw (H := H) (k := ⟨ty, it, es.map fun e => e.2.1, none⟩) (id := id) (v := (G id).cv) (by unfold zcr; rw [wdm, hb]; rfl) hr0 hn
  simp only at hbody
  have hsrc := zds (H := H) hr rfl fun i hi => hag.h i (by simp [hi])
  have key : PE P W n o F H fun p' H' => p' = .ps (.c id p.toNat) ((G id).cv + 1) ∧ H' = H.set (.c id p.toNat) ⟨(G id).cv + 1, some (.row it (wid ty) (r.length + xs.1.length) (r.flatMap (je ty) ++ xs.1.flatMap (je ty)))⟩ :=
    PE.append (id := .c id p.toNat) (ver := (G id).cv) (m := r.length) (m2 := xs.1.length) (cs := r.flatMap (je ty)) (cs2 := xs.1.flatMap (je ty)) ho hd (hdo d hd) hse (by rw [hag.ev hs', hs]; simp only [TS.den]) (by unfold yh; rw [hbody]; simp) (by rw [hag.ev hx']; exact hsrc) (Y4 hc.2.2 _) b1 b2 ⟨rfl, rfl⟩
  have hnd : (([(id, (⟨(G id).ver, some (.mrows kt it ty es (kv + 2) (some p.toNat))⟩ : GB)), (nid, ⟨(G nid).cv + 1, some (.row it ty (r ++ xs.1))⟩)] : List (Nat × GB)).map Prod.fst).Nodup := by simp [Ne.symm hne]
  have h2n : ∀ k : Nm, k.rt = some nid → qf H [(id, ⟨(G id).ver, some (.mrows kt it ty es (kv + 2) (some p.toNat))⟩), (nid, ⟨(G nid).cv + 1, some (.row it ty (r ++ xs.1))⟩)] k = ym ⟨(G nid).cv + 1, some (.row it ty (r ++ xs.1))⟩ k := fun k hk => vn hnd (by simp) hk
  have h2i : ∀ k : Nm, k.rt = some id → qf H [(id, ⟨(G id).ver, some (.mrows kt it ty es (kv + 2) (some p.toNat))⟩), (nid, ⟨(G nid).cv + 1, some (.row it ty (r ++ xs.1))⟩)] k = ym ⟨(G id).ver, some (.mrows kt it ty es (kv + 2) (some p.toNat))⟩ k := fun k hk => vn hnd (by simp) hk
  show PE P W n o F H fun p' H' => p' = (TS.own nid ((G nid).cv + 1)).den ∧ H' = qf H [(id, ⟨(G id).ver, some (.mrows kt it ty es (kv + 2) (some p.toNat))⟩), (nid, ⟨(G nid).cv + 1, some (.row it ty (r ++ xs.1))⟩)]
  refine waf (ids := [id, nid]) (σ := fun k => if k = .o nid then some (.c id p.toNat) else some k) key hfl (za4 hfl.h fun x hx => ?_) hdo (Zb (id := id) (D := [nid]) (ver := (G id).ver) (ver1 := (G id).ver) (kv := kv + 2) (it := it) (kt := kt) (t := ty) (es := es) (h := some p.toNat) (cs := (range es.length).map (Hole.cell id (G id).cv none)) (fun k hk => ?_) h2i (fun k hk => ?_) (by rw [v8 (by simp)]; exact r1) (wb7 _) (by rw [if_neg (by simp [Ne.symm hne])]) (fun j => ?_) (by simp) (fun j r' hj hr' => .inl ?_) fun k k' x hk hk' hl1 hl2 e1 e2 => ?_) ?_
  · rcases wcr.1 hx with h | h <;> exact .noP (zcu _ h)
  · rw [v8 fun e => hk ⟨id, by simp, by rw [e]; rfl⟩, if_neg fun e => hk ⟨nid, by simp, by rw [e]; rfl⟩]
    exact ⟨yu fun i hi e => hk ⟨i, hi, e⟩, rfl⟩
  · obtain ⟨i, hi, e⟩ := hk
    simp only [wcb] at hi; subst hi
    rw [v8 fun e2 => by rw [e2] at e; cases e; exact hne rfl, h2n k e, hnn.at e]
    cases k with
    | r _ => cases e
    | c i j => cases e; exact .inl ⟨rfl, Nat.le_succ _⟩
    | o i =>
      cases e
      refine .inr ⟨Nat.lt_succ_of_le (GB.ver_le _), .c id p.toNat, _, by rw [if_pos rfl], ⟨id, by simp, rfl⟩, rfl, ?_, fun c hc => zcu c hc⟩
      unfold PHeap.set; rw [if_pos rfl]
      simp [BD.den]
  · by_cases e : j = p.toNat
    · subst e; unfold PHeap.set; rw [if_pos rfl]; simp only; omega
    · rw [v8 (by simp [e]), r3]; omega
  · have e : j ≠ p.toNat := fun e => by subst e; simp [Hole.is] at hj
    refine ⟨.c id j, (G id).cv, ?_, by rw [if_neg (by simp)], ⟨id, by simp, rfl⟩, ?_⟩
    · rw [J0 (by simpa using (wb3.1 hr').1)]; rfl
    · rw [v8 (by simp [e])]; exact r4 j r' rfl hr'
  · have hno : ∀ {k : Nm}, (qf H [(id, ⟨(G id).ver, some (.mrows kt it ty es (kv + 2) (some p.toNat))⟩), (nid, ⟨(G nid).cv + 1, some (.row it ty (r ++ xs.1))⟩)] k).body.isSome = true → k ≠ .c id p.toNat := fun {k} hk e => by
      subst e; rw [h2i _ rfl] at hk; simp [ym, Qp, BD.ch, Hole.is] at hk
    split at e1 <;> split at e2
    · rename_i a b; rw [a, b]
    · cases e1; cases e2; exact absurd rfl (hno hl2)
    · cases e1; cases e2; exact absurd rfl (hno hl1)
    · cases e1; cases e2; rfl
  · simp only [TS.den]
    refine .nm (if_pos rfl) (fun _ => ?_) (by rw [h2n _ rfl]; exact wb7 _)
    unfold PHeap.set; rw [if_pos rfl]; exact ⟨rfl, rfl⟩
def zwm (G : EG) : TS → Option (Nat × MS)
  | .own id ver => match Nat.beq (G id).ver ver with
    | true => match (G id).b with
      | some (.mrows kt it t es kv none) => match plT kt with
        | true => some (id, ⟨0, 0, id, ver, kt, it, t, es, kv, []⟩)
        | false => none
      | _ => none
    | false => none
  | _ => none
theorem zls {x : TS} {id : Nat} {m : MS} (h : zwm G x = some (id, m)) : x = .own id m.mver ∧ G id = ⟨m.mver, some (.mrows m.kt m.lt m.t m.es m.kv none)⟩ ∧ plT m.kt = true := by
  unfold zwm at h
  split at h <;> try (cases h; done)
  split at h <;> try (cases h; done)
  rename_i hv
  split at h <;> try (cases h; done)
  rename_i hb
  split at h <;> cases h
  exact ⟨rfl, by rw [← hb, ← ju hv], by assumption⟩
def sMrg (P : Program) (t : TypeId) (o : Oper) (nid : Nat) (G : EG) (x : TS) : Option SR := match zfg P t with
  | none => none
  | some _ => match vz o with
    | false => none
    | true => match zwm G x with
      | none => none
      | some (id, m) => match Nat.beq id nid with
        | true => none
        | false => some (.mem (.own nid (nv G nid)) nid ⟨nv G nid, some (.iter id m.mver (replicate m.es.length false) none)⟩ [id])
theorem z30 {t : TypeId} {nid : Nat} {x : Operand} {q : SR} (ho : o.op = .range t x) (h : sMrg P t o nid G (evE E x) = some q) : SOk P o E G q := by
  have hx' : x ∈ o.op.operands := by rw [ho]; simp [Op.operands]
  unfold sMrg at h
  split at h <;> try (cases h; done)
  rename_i ke hke
  split at h <;> try (cases h; done)
  rename_i hds
  split at h <;> try (cases h; done)
  rename_i id m hm
  split at h <;> cases h
  rename_i hne
  obtain ⟨e1, e2, _⟩ := zls hm
  obtain ⟨dd, hdd⟩ := qz hds
  refine SOk.mem fun W n F H hdo hag => ?_
  obtain ⟨r1, _, _, _⟩ := zdp (hag.hn id (by simp)) (by rw [e2])
  refine wbq (id := .o id) (r := .o nid) ho hdd (hdo dd hdd) (zas hke) (fun e => by cases e; simp at hne) r1 (by rw [hag.ev hx', e1, e2]; simp only [TS.den]) ?_
  rw [zij hag]
  exact ⟨by simp only [TS.den], by rw [e2]; rfl⟩
def zl5 {α : Type} (mask : List Bool) (es : List α) (j : Nat) : Option α := match Nat.beq mask.length es.length with
  | true => zh0 es j
  | false => none
def sMnt (G : EG) (x : TS) : Option SR := match x with
  | .own it ver => match Nat.beq (G it).ver ver with
    | true => match (G it).b with
      | some (.iter mid mver mask (some j)) => match zwm G (.own mid mver) with
        | some (_, m) => some (.dat (m.kt.D × List m.t.D × Unit) (zl5 mask m.es j) (fun e => .tup [.v ⟨m.kt, e.1⟩, .kid mid (j : Int) (m.mver + m.kv)]) [it, mid])
        | none => none
      | _ => none
    | false => none
  | _ => none
theorem z4c {x : Operand} {q : SR} (ho : o.op = .entry x) (h : sMnt G (evE E x) = some q) : SOk P o E G q := by
  have hx' : x ∈ o.op.operands := by rw [ho]; simp [Op.operands]
  unfold sMnt at h
  split at h <;> try (cases h; done)
  rename_i it ver hx
  split at h <;> try (cases h; done)
  rename_i hv
  split at h <;> try (cases h; done)
  rename_i mid mver mask j hb
  split at h <;> cases h
  rename_i id m hm
  obtain ⟨e1, e2, e3⟩ := zls hm
  cases e1
  refine SOk.dat fun e he W F H hag => ?_
  unfold zl5 at he
  split at he <;> try (cases he; done)
  rename_i hl
  have hl := ju hl
  have hjl : j < m.es.length := (wb3.1 he).1
  obtain ⟨r1, _, _, _⟩ := zdp (hag.hn mid (by simp)) (by rw [e2])
  have hr : H (.o it) = ⟨ver, some (itB (.o mid) m.mver mask (some j))⟩ := by
    rw [hag.h it (by simp)]
    unfold qr; rw [hb, ju hv]; rfl
  rw [e2] at r1
  have := wbo (P := P) (W := W) (F := F) (id := .o mid) (r := .o it) (j := j) ho r1 hr hl (by rw [hag.ev hx', hx]; simp only [TS.den]) hjl (by rw [J0 hjl]) (by rw [wb9]; rw [show m.es[j]? = some e from he]; rfl)
  simp only [TS.den, q8, zlv _ _ e3]
  exact this
def sMlk (P : Program) (ky : TypeId → Option KY) (t : TypeId) (G : EG) (x y : TS) : Option SR := match zfg P t with
  | none => none
  | some ke => match ky ke.1 with
    | none => none
    | some q => match z3o G q.kt x with
      | none => none
      | some m => match toT q.kt y with
        | none => none
        | some k => some (.dat Nat (kIx q.eqb k (m.es.map fun e => e.1)) (fun j => .kid m.id (j : Int) (G m.id).cv) [m.id])
theorem z11 {ky : TypeId → Option KY} (hky : znl P ky) {t : TypeId} {x y : Operand} {q : SR} (ho : o.op = .lookup t x y false) (h : sMlk P ky t G (evE E x) (evE E y) = some q) : SOk P o E G q := by
  have hx' : x ∈ o.op.operands := by rw [ho]; simp [Op.operands]
  have hy' : y ∈ o.op.operands := by rw [ho]; simp [Op.operands]
  unfold sMlk at h
  split at h <;> try (cases h; done)
  rename_i ke hke
  split at h <;> try (cases h; done)
  rename_i kq hq
  split at h <;> try (cases h; done)
  rename_i m hm
  split at h <;> cases h
  rename_i k hk
  obtain ⟨hpk, hK⟩ := hky _ _ hq
  obtain ⟨e1, e2⟩ := zph hm
  refine SOk.dat fun j hj W F H hag => ?_
  obtain ⟨r1, _, _, _⟩ := zdp (hag.hn m.id (by simp)) e2
  have hjl : j < m.es.length := by
    obtain ⟨_, h1, _⟩ := zcm hj
    simpa using (wb3.1 h1).1
  have hH : H (.o m.id) = ⟨(G m.id).ver, some (y6 ((m.es.map fun e => e.1).map (oV kq.kt)) (range m.es.length) m.es.length ((range m.es.length).map (Hole.cell m.id (G m.id).cv none)))⟩ := by rw [r1, wc7]; rfl
  have := wbn (P := P) (W := W) (F := F) (id := .o m.id) hK ho (zas hke) hH (by rw [hag.ev hx', e1]; simp only [TS.den]) (k := k) (fun Z V w v hv => by rw [hag.ev hy'] at hv; exact zfk hk hpk hv) hj (by rw [J0 hjl])
  simp only [TS.den]
  exact this
end
def zqn (P : Program) (ky : TypeId → Option KY) (fl : Option (Ty × TypeId × Ty)) (nid : Nat) (o : Oper) (E : EF) (G : EG) : Option SK := match o.op with
  | .makeMap t none => match sMmk fl o G nid with
    | some q => some q.kP
    | none => none
  | .mapEntry t x y => match sMen P ky t G (evE E x) (evE E y) with
    | some q => some q.kP
    | none => none
  | .entryStore t x s y => match sMes G (evE E x) (evE E s) (evE E y) with
    | some q => some q.kP
    | none => none
  | .call ⟨.builtin .append, ⟨[s, x]⟩, ⟨[t, t']⟩⟩ => match Nat.beq t t' with
    | true => match sMka (q6 P t) o G nid (evE E s) (evE E x) with
      | some q => some q.kP
      | none => none
    | false => none
  | .range t x => match sMrg P t o nid G (evE E x) with
    | some q => some (q.k G)
    | none => none
  | .entry x => match sMnt G (evE E x) with
    | some q => some (q.k G)
    | none => none
  | .lookup t x y false => match sMlk P ky t G (evE E x) (evE E y) with
    | some q => some (q.k G)
    | none => none
  | _ => none
theorem zpd {P : Program} {ky : TypeId → Option KY} (hky : znl P ky) {fl : Option (Ty × TypeId × Ty)} {nid : Nat} {o : Oper} {E : EF} {G : EG} {r : SK} (h : zqn P ky fl nid o E G = some r) : zer P o E G r := by
  unfold zqn at h
  split at h
  · rename_i ho
    split at h <;> cases h
    rename_i q hq
    exact (z3i ho hq).k
  · rename_i ho
    split at h <;> cases h
    rename_i q hq
    exact (z10 hky ho hq).k
  · rename_i ho
    split at h <;> cases h
    rename_i q hq
    exact (z36 ho hq).k
  · rename_i s x t t' ho
    split at h <;> try (cases h; done)
    rename_i ht
    cases ju ht
    split at h <;> cases h
    rename_i q hq
    exact (z2r ho hq).k
  · rename_i ho
    split at h <;> cases h
    rename_i q hq
    exact (z30 ho hq).k
  · rename_i ho
    split at h <;> cases h
    rename_i q hq
    exact (z4c ho hq).k
  · rename_i ho
    split at h <;> cases h
    rename_i q hq
    exact (z11 hky ho hq).k
  · cases h
def stR (P : Program) (ky : TypeId → Option KY) (lk : Option LK) (q : Option SR) (nid : Nat) (o : Oper) (E : EF) (G : EG) : Option SK := match lk with
  | some (.rows it t) => zwg P (some (it, t)) nid o E G
  | some .que => z4m P o E G
  | some (.mrows kt it t) => zqn P ky (some (kt, it, t)) nid o E G
  | _ => match stK P q nid o E G with
    | some r => some r
    | none => match z4m P o E G with
      | some r => some r
      | none => match zwg P none nid o E G with
        | some r => some r
        | none => zqn P ky none nid o E G
theorem z0d {P : Program} {ky : TypeId → Option KY} (hky : znl P ky) {lk : Option LK} {q : Option SR} {nid : Nat} {o : Oper} {E : EF} {G : EG} (hq : ∀ x, q = some x → SOk P o E G x) {r : SK} (h : stR P ky lk q nid o E G = some r) : zer P o E G r := by
  unfold stR at h
  split at h
  · exact zsj h
  · exact zws h
  · exact zpd hky h
  · split at h
    · rename_i hs; cases h; exact stK_ok hq hs
    · split at h
      · rename_i hs; cases h; exact zws hs
      · split at h
        · rename_i hs; cases h; exact zsj hs
        · exact zpd hky h
theorem zq9 {P : Program} {W : Env} {H : PHeap} {V : Nm → Value} {w : World} (hr : HRel P W H V w) {id : Nm} {t : TypeId} {cs : List PV} (hb : (H id).body = some (.box t cs)) {off : Nat} {v : Value} (hoff : off < cs.length) (h1 : v.oneCell' = true) :
    ∃ g, V id = .pointer (some ⟨g, 0, none⟩) ∧ HRel P W (H.set id ⟨(H id).ver, some (.box t (setMany cs off [.u v]))⟩) V (w.setCell ⟨g, off, none⟩ v) ∧ ∀ p u, Rp W.Z H V w p u → Rp W.Z (H.set id ⟨(H id).ver, some (.box t (setMany cs off [.u v]))⟩) V (w.setCell ⟨g, off, none⟩ v) p u := by
  obtain ⟨g, arr, e, hg, hh, hR, h12⟩ := hr.box id t cs hb
  refine ⟨g, e, ?_⟩
  have hl : cs.length = arr.size := by have := hR.1; simpa using this
  rw [setCell_eq_setRow w g off arr t (0, 0) v hh]
  have hs : (H id).body.isSome = true := by rw [hb]; rfl
  have hturn : Turn W H V w id ⟨(H id).ver, some (.box t (setMany cs off [.u v]))⟩ (V id) (w.setRow g (arr.setIfInBounds off v)) := by
    have hother : ∀ b, b ≠ g → (w.setRow g (arr.setIfInBounds off v)).heap[b]? = w.heap[b]? := fun b hb => setRow_other w g b _ hb
    exact ⟨hr.below.trans ⟨rfl, rfl, rfl, by simp, fun b hb => hother b (by omega)⟩, by simp, fun b hb hn => hother b fun e2 => hn ⟨hs, by rw [e2, e]; rfl⟩, fun g' hg' => .inr ⟨hs, hg'⟩, .inr ⟨rfl, rfl, hs⟩⟩
  have hone : RpL W.Z H V w [.u v] [v] := ⟨rfl, fun i p u h1 h2 => by
    cases i with
    | zero => cases h1; cases h2; exact .u _
    | succ i => cases h1⟩
  have hm : setMany arr.toList off [v] = (arr.setIfInBounds off v).toList := by
    unfold setMany
    rw [Array.toList_setIfInBounds, List.set_eq_take_append_cons_drop, if_pos (by simpa using (by omega : off < arr.size))]
    simp
  have := hturn.heap hr (fun bd hbd => by
    cases hbd
    refine ⟨g, _, e, hg, setRow_heap w g arr _ t (0, 0) hh, ?_, ?_⟩
    · rw [← hm]
      exact (RpL.setMany (W := W) (H := H) hR hone (off := off) (by show off + 1 ≤ _; omega)).mono fun p v hp => hturn.rp hp
    · intro u hu
      rw [← hm] at hu
      rcases Yb hu with hu | hu
      · exact h12 u hu
      · simp at hu; subst hu; exact h1)
  have hV : vg V id (V id) = V := by funext i; unfold vg; split <;> simp_all
  have h3 := fun p u (h : Rp W.Z H V w p u) => hturn.rp h
  rw [hV] at this h3
  exact ⟨this, h3⟩
theorem zdm {P : Program} {W : Env} {H : PHeap} {V : Nm → Value} {w : World} (hr : HRel P W H V w) {id : Nm} {t : TypeId} {cs : List PV} (hb : (H id).body = some (.box t cs)) {g : Nat} (hg : V id = .pointer (some ⟨g, 0, none⟩)) {off : Nat} (ho : off < cs.length) :
    (∃ v, w.cell? ⟨g, off, none⟩ = some v) ∧ w.frozen? ⟨g, off, none⟩ = false ∧ ∀ u, cs[off]? = some (.u u) → w.cell? ⟨g, off, none⟩ = some u := by
  obtain ⟨g', arr, e, _, hh, hR, _⟩ := hr.box id t cs hb
  rw [hg] at e
  cases e
  have hl : cs.length = arr.size := by have := hR.1; simpa using this
  have hc : w.cell? ⟨g, off, none⟩ = some arr[off] := by
    simp [World.cell?, hh, wcn (show off < arr.size by omega)]
  refine ⟨⟨_, hc⟩, by simp [World.frozen?, hh], fun u hu => ?_⟩
  rw [hc]
  have := hR.2 off _ arr[off] hu (by simp [wcn (show off < arr.size by omega)])
  cases this
  rfl
def zlp (P : Program) (f : FuncId) : Prop := yr P f = true ∧ ∀ {gb off : Nat} {g : FuncId} {va vb : Array Value} {w : World} {K : World → Prop}, w.cell? ⟨gb, off, none⟩ = some (.int .u32 0) → w.cell? ⟨gb, off + 1, none⟩ = some (.int .i32 0) → w.frozen? ⟨gb, off, none⟩ = false → w.frozen? ⟨gb, off + 1, none⟩ = false →
  (∀ w, (callFunc g (va ++ vb)).run P w = .ok (.enter g (va ++ vb)) w) →
  Calls P g (va ++ vb) (w.setCell ⟨gb, off + 1, none⟩ (.int .i32 1)) (fun e w' => (∃ v, e = .returned v) ∧ (∃ x, w'.cell? ⟨gb, off, none⟩ = some x) ∧ w'.cell? ⟨gb, off + 1, none⟩ = some (.int .i32 1) ∧ w'.frozen? ⟨gb, off, none⟩ = false ∧ w'.frozen? ⟨gb, off + 1, none⟩ = false ∧ K w') →
  Calls P f #[.pointer (some ⟨gb, off, none⟩), .func (.func g) va vb] w fun e w'' => e = .returned (.tuple #[]) ∧ ∃ w', K w' ∧ w'' = (w'.drew.setCell ⟨gb, off, none⟩ (.int .u32 1)).setCell ⟨gb, off + 1, none⟩ (.int .i32 0)
theorem zs7 {P : Program} {f : FuncId} (hf : yr P f = true) (args : Array Value) (w : World) : (callFunc f args).run P w = .ok (.enter f args) w := by
  unfold yr at hf
  split at hf
  · rename_i fn hfn
    simp only [wb6, wc5] at hf
    have hb : fn.body.isNone = false := by cases hh : fn.body <;> simp_all
    simp only [callFunc, Sem.run_bind, run_program, Result.andThen_ok, hfn, hf.2, hb]
    simp
  · cases hf
theorem zne (h : LetsOut fun _ _ _ => False) : False := by
  obtain ⟨_, _, h⟩ := h
  exact h
def zrm : Oper := { dst := none, op := .call ⟨.value (.tmp 0), #[], #[]⟩, type := 0, pos := "", after := #[], guard := none }
def z3m (q p : PV) : PFrame := fun t => match t with
  | 0 => q
  | 1 => p
  | _ => .unk
section
variable {P : Program} {W : Env} {n : Nat} {H : PHeap} {F : PFrame}
theorem PE.once {o : Oper} {cl : Call} {f : FuncId} {id : Nm} {off ver : Nat} {t t2 : TypeId} {cs cs2 : List PV} {g : FuncId} {ca cb : List PV} {p1 : PV} {H2 : PHeap} (hon : zlp P f) (hd : Jc n o) (ho : o.op = .call cl) (ht : Q8 F cl = some (f, [.pp id off ver, .fn (.func g) ca cb])) (hfl : FlW W F H)
    (hb : (H id).body = some (.box t cs)) (hv : (H id).ver = ver) (h0 : cs[off]? = some (.u (.int .u32 0))) (h1 : cs[off + 1]? = some (.u (.int .i32 0))) (hg : yr P g = true)
    (hc : ∀ W1 : Env, (∀ i, Fl (W1.G i)) → PE P W1 2 zrm (z3m (.fn (.func g) ca cb) (.pp id off ver)) (H.set id ⟨ver, some (.box t (setMany cs (off + 1) [.u (.int .i32 1)]))⟩) fun p H' => p = p1 ∧ H' = H2)
    (h2 : (H2 id).body = some (.box t2 cs2)) (hv2 : (H2 id).ver = ver) (h3 : off < cs2.length) (h4 : cs2[off + 1]? = some (.u (.int .i32 1))) :
    PE P W n o F H fun p H' => p = .tup [] ∧ H' = H2.set id ⟨ver, some (.box t2 (setMany (setMany cs2 off [.u (.int .u32 1)]) (off + 1) [.u (.int .i32 0)]))⟩ := fun V a w hr => by
  obtain ⟨vs, hev, hR⟩ := Qf (P := P) (W := W) (H := H) (V := V) (a := a) (w := w) ho ht hon.1 fun x hx' => Rp.eval (P := P) x fun t ht => hr.slot t
  let W1 : Env := { W.push F a with ds := [] }
  have hpf : ∀ i, Fl (W1.G i) := fun i => by
    simp only [W1, Env.push]
    split
    · exact hfl.f _
    · exact hfl.g _
  have hpush : HRel P W1 H V w := ⟨hr.heap.below, hr.heap.body, fun i => by
    simp only [W1, Env.push]
    split
    · exact hr.slot _
    · exact hr.heap.ghost _, hr.heap.apart, hr.heap.zlt, hr.heap.nz⟩
  have hs : (H id).body.isSome = true := by rw [hb]; rfl
  have hlt1 : off + 1 < cs.length := (wb3.1 h1).1
  obtain ⟨gb, hV, hr1, htr⟩ := zq9 hpush hb (off := off + 1) (v := .int .i32 1) hlt1 rfl
  obtain ⟨_, z0, c0⟩ := zdm hpush hb hV (off := off) (by omega)
  obtain ⟨_, z1, c1⟩ := zdm hpush hb hV (off := off + 1) hlt1
  rw [hv] at hr1 htr
  -- the arguments
  match vs, hR with
  | [v0, v1], hR =>
    have r0 := hR.2 0 _ v0 rfl rfl
    have r1 := hR.2 1 _ v1 rfl rfl
    have e0 : v0 = .pointer (some ⟨gb, off, none⟩) := by
      cases r0 with
      | pp _ _ _ _ _ hh =>
        obtain ⟨g', hg', rfl⟩ := hh hs hv
        rw [hV] at hg' ⊢
        cases hg'
        simp [Jy]
    subst e0
    cases r1 with
    | fn _ _ _ va vb hla hlb ha hb' =>
      let a1 : Act := { tmps := #[.func (.func g) va vb, .pointer (some ⟨gb, off, none⟩)], defers := [] }
      have hrel : Rel P W1 2 (z3m (.fn (.func g) ca cb) (.pp id off ver)) (H.set id ⟨ver, some (.box t (setMany cs (off + 1) [.u (.int .i32 1)]))⟩) V a1 (w.setCell ⟨gb, off + 1, none⟩ (.int .i32 1)) := ⟨hr1, rfl, rfl, fun t => by
        match t with
        | 0 => exact htr _ _ (.fn _ _ _ va vb hla hlb ha hb')
        | 1 => exact htr _ _ r0
        | _ + 2 => exact .unk _⟩
      have hpe := hc W1 hpf V a1 _ hrel
      have hrun : (execOp a1.eval zrm).run P (w.setCell ⟨gb, off + 1, none⟩ (.int .i32 1)) = .ok (.enter g (va ++ vb)) (w.setCell ⟨gb, off + 1, none⟩ (.int .i32 1)) := by
        have h2 := zs7 hg (va ++ vb) (w.setCell ⟨gb, off + 1, none⟩ (.int .i32 1))
        have h3 : a1.eval (.tmp 0) = .func (.func g) va vb := rfl
        simp only [execOp, zrm, resolve, h3, Deferred.ofValue, Sem.run_bind, Sem.run_pure, Result.andThen_ok, invoke]
        simpa using h2
      unfold Oper.wp at hpe
      rw [hrun] at hpe
      have key := hon.2 (K := fun w' => ∃ V', HRel P W1 H2 V' w' ∧ V' id = .pointer (some ⟨gb, 0, none⟩)) (c0 _ h0) (c1 _ h1) z0 z1 (fun w => zs7 hg _ w) (Calls.mono hpe fun e w' he => by
        cases e with
        | returned v =>
          obtain ⟨p, H', V', ⟨rfl, rfl⟩, hr2⟩ := he
          have hslot := hr2.slot 1
          have hs2 : (H' id).body.isSome = true := by rw [h2]; rfl
          obtain ⟨g', arr, e3, _⟩ := hr2.heap.box id t2 cs2 h2
          have hgb : V' id = .pointer (some ⟨gb, 0, none⟩) := by
            have hsl : Rp W1.Z H' V' w' (.pp id off ver) (.pointer (some ⟨gb, off, none⟩)) := hslot
            cases hsl with
            | pp _ _ _ _ _ hh =>
              obtain ⟨g2, hg2, h5⟩ := hh hs2 hv2
              rw [e3] at hg2 h5 ⊢
              cases hg2
              simp [Jy] at h5
              rw [h5]
          obtain ⟨x0, y0, _⟩ := zdm hr2.heap h2 hgb h3
          obtain ⟨_, y1, z1⟩ := zdm hr2.heap h2 hgb (wb3.1 h4).1
          exact ⟨⟨v, rfl⟩, x0, z1 _ h4, y0, y1, V', hr2.heap, hgb⟩
        | panicked c => exact he.elim
        | outgrown => exact (zne he).elim)
      refine zb0 hev (key.mono fun e w'' ⟨he, w', ⟨V', hr2, hgb⟩, hw⟩ => ?_)
      have hr3 := hr2.grow (w' := w'.drew) ⟨rfl, rfl, rfl, wb7 _, fun _ _ => rfl⟩
      obtain ⟨g3, hg3, hr4, _⟩ := zq9 hr3 h2 (off := off) (v := .int .u32 1) h3 rfl
      rw [hgb] at hg3; cases hg3
      rw [hv2] at hr4
      have hb4 : (H2.set id ⟨ver, some (.box t2 (setMany cs2 off [.u (.int .u32 1)]))⟩ id).body = some (.box t2 (setMany cs2 off [.u (.int .u32 1)])) := by simp [PHeap.set]
      have hlt4 : off + 1 < (setMany cs2 off [.u (.int .u32 1)]).length := by
        have := (wb3.1 h4).1
        rw [yq _ _ _ (by show off + 1 ≤ _; omega)]; exact this
      obtain ⟨g4, hg4, hr5, _⟩ := zq9 hr4 hb4 (off := off + 1) (v := .int .i32 0) hlt4 rfl
      rw [hgb] at hg4; cases hg4
      have hset : (H2.set id ⟨ver, some (.box t2 (setMany cs2 off [.u (.int .u32 1)]))⟩).set id ⟨(H2.set id ⟨ver, some (.box t2 (setMany cs2 off [.u (.int .u32 1)]))⟩ id).ver, some (.box t2 (setMany (setMany cs2 off [.u (.int .u32 1)]) (off + 1) [.u (.int .i32 0)]))⟩ = H2.set id ⟨ver, some (.box t2 (setMany (setMany cs2 off [.u (.int .u32 1)]) (off + 1) [.u (.int .i32 0)]))⟩ := by
        funext k
        unfold PHeap.set
        by_cases e : k = id
        · simp [e]
        · simp [e]
      rw [hset, ← hw] at hr5
      have hgh := hr5.ghost
      have hslots : ∀ t, Rp W.Z _ V' w'' (F t) (a.tmps.getD t undef) := fun t => by
        have := hgh (2 * t)
        simp only [W1, Env.push, Nat.mul_mod_right, if_true] at this
        rwa [show 2 * t / 2 = t by omega] at this
      have hgg : ∀ i, Rp W.Z _ V' w'' (W.G i) (W.gv i) := fun i => by
        have := hgh (2 * i + 1)
        simp only [W1, Env.push, show ¬ ((2 * i + 1) % 2 = 0) by omega, if_false] at this
        rwa [show (2 * i + 1) / 2 = i by omega] at this
      have hfin : Rel P W n F _ V' a w'' := ⟨⟨hr5.below, hr5.body, hgg, hr5.apart, hr5.zlt, hr5.nz⟩, hr.size, hr.defers, hslots⟩
      exact ⟨.tuple #[], he, .tup [], _, V', ⟨rfl, rfl⟩, hfin.put (Below.refl _ _) o.dst hd (.tup [] #[] rfl fun i p v h => by simp at h)⟩
  | [], hR => exact absurd hR.1 (by simp)
  | [_], hR => exact absurd hR.1 (by simp)
  | _ :: _ :: _ :: _, hR => exact absurd hR.1 (by simp)
end
inductive AtK where
  | ld (k : IntKind)
  | add
def z2u (P : Program) (T : FuncId → Option AtK) : Prop := ∀ f k, T f = some k → match k with
  | .ld k => ∀ (a : Addr) (x : Int) (w : World), w.cell? a = some (.int k x) → (callFunc f #[.pointer (some a)]).run P w = .ok (.value (.int k x)) w
  | .add => ∀ (a : Addr) (x y : Int) (w : World), w.cell? a = some (.int .i64 x) → w.frozen? a = false → (callFunc f #[.pointer (some a), .int .i64 y]).run P w = .ok (.value (.int .i64 (w64 (x + y)))) (w.setCell a (.int .i64 (w64 (x + y))))
def z1v (T : FuncId → Option AtK) (c : Call) (E : EF) (G : EG) : Option SR := match c with
  | ⟨.value (.func f), ⟨[x]⟩, _⟩ => match T f with
    | some (.ld k) => match evE E x with
      | .rd _ => some (.dat Int none (fun z => .v ⟨.int k, z⟩) [])
      | .pt id off ver => match Nat.beq (G id).ver ver with
        | true => match (G id).b with
          | some (.box _ xs) => match ldT false 1 off xs with
            | some s => match zk (.int k) s with
              | some _ => some (.now s [id])
              | none => none
            | none => none
          | _ => none
        | false => none
      | _ => none
    | _ => none
  | ⟨.value (.func f), ⟨[x, y]⟩, _⟩ => match T f with
    | some .add => match evE E x with
      | .pt id off ver => match Nat.beq (G id).ver ver with
        | true => match (G id).b with
          | some (.box t xs) => match ldT false 1 off xs with
            | some s => match zk (.int .i64) s with
              | some m => match zk (.int .i64) (evE E y) with
                | some d => match znk off 1 (.v ⟨.int .i64, w64 (m + d)⟩) xs with
                  | some ys => some (.mem (.v ⟨.int .i64, w64 (m + d)⟩) id ⟨ver, some (.box t ys)⟩ [])
                  | none => none
                | none => none
              | none => none
            | none => none
          | _ => none
        | false => none
      | _ => none
    | _ => none
  | _ => none
theorem zv2 {off : Nat} {xs : List TS} {s : TS} {k : IntKind} {m : Int} (h : ldT false 1 off xs = some s) (hl : zk (.int k) s = some m) : (jo xs)[off]? = some (.u (.int k m)) := by
  obtain ⟨_, rest, hr⟩ := zbf h
  rw [vj hl] at hr
  have : ((jo xs).drop off)[0]? = some (.u (.int k m)) := by rw [hr]; rfl
  rwa [wcv, wdb] at this
theorem zy4 {P : Program} {a : Act} {w w' : World} {o : Oper} {f : FuncId} {args : Array Operand} {ts : Array TypeId} {r : Next} (ho : o.op = .call ⟨.value (.func f), args, ts⟩) (h : (callFunc f (args.map a.eval)).run P w = .ok r w') : (execOp a.eval o).run P w = .ok r w' := by
  have h3 : a.eval (.func f) = .func (.func f) #[] #[] := rfl
  simp only [execOp, ho, resolve, h3, Deferred.ofValue, Sem.run_bind, Sem.run_pure, Result.andThen_ok, invoke]
  simpa using h
theorem z0c {P : Program} {T : FuncId → Option AtK} (hT : z2u P T) {o : Oper} {c : Call} {E : EF} {G : EG} {q : SR} (ho : o.op = .call c) (h : z1v T c E G = some q) : SOk P o E G q := by
  unfold z1v at h
  split at h
  · rename_i f x ts
    have hx' : x ∈ o.op.operands := by rw [ho]; simp [Op.operands, Call.operands]
    split at h <;> try (cases h; done)
    rename_i k hk
    split at h <;> try (cases h; done)
    · cases h
      exact SOk.dat fun y hy => by cases hy
    rename_i id off ver hx
    split at h <;> try (cases h; done)
    rename_i hv
    have hv := wb2 hv
    split at h <;> try (cases h; done)
    rename_i t xs hb
    split at h <;> try (cases h; done)
    rename_i s hs
    split at h <;> cases h
    rename_i m hm
    refine SOk.now fun W F H hag V a w hr hsl => ?_
    have hxv := Rp.eval (P := P) (F := F) (a := a) (Z := W.Z) (H := H) (V := V) (w := w) x fun t ht => hsl t (by rw [← ht]; exact hx')
    rw [hag.ev hx', hx] at hxv
    simp only [TS.den] at hxv
    have hH := hag.h id (by simp)
    have hbody : (H (.o id)).body = some (.box t (jo xs)) := by rw [hH]; simp [qr, hb, BD.den]
    have hver : (H (.o id)).ver = ver := by rw [hH]; simpa [qr] using hv
    have hc := zv2 hs hm
    generalize hva : a.eval x = v at hxv
    cases hxv with
    | pp _ _ _ _ _ hh =>
      obtain ⟨g, hg, rfl⟩ := hh (by rw [hbody]; rfl) hver
      obtain ⟨g', arr, e, _⟩ := hr.box _ t _ hbody
      rw [e] at hg hva
      cases hg
      simp only [Jy, wcx] at hva
      obtain ⟨_, _, c1⟩ := zdm hr hbody e (wb3.1 hc).1
      refine ve (zy4 (P := P) ho (w' := w) (r := .value (.int k m)) ?_) ⟨_, rfl, ?_, Below.refl _ _⟩
      · have := hT f _ hk ⟨g', off, none⟩ m w (c1 _ hc)
        simpa [hva] using this
      · rw [vj hm]; exact .u _
  · rename_i f x y ts
    have hx' : x ∈ o.op.operands := by rw [ho]; simp [Op.operands, Call.operands]
    have hy' : y ∈ o.op.operands := by rw [ho]; simp [Op.operands, Call.operands]
    split at h <;> try (cases h; done)
    rename_i hk
    split at h <;> try (cases h; done)
    rename_i id off ver hx
    split at h <;> try (cases h; done)
    rename_i hv
    have hv := wb2 hv
    split at h <;> try (cases h; done)
    rename_i t xs hb
    split at h <;> try (cases h; done)
    rename_i s hs
    split at h <;> try (cases h; done)
    rename_i m hm
    split at h <;> try (cases h; done)
    rename_i d hd
    split at h <;> cases h
    rename_i ys hys
    obtain ⟨e1, e2, e3⟩ := Zw hys
    have hc := zv2 hs hm
    refine SOk.mem fun W n F H hdo hag V a w hr => ?_
    have hxv := Rp.eval (P := P) (F := F) (a := a) (Z := W.Z) (H := H) (V := V) (w := w) x fun t _ => hr.slot t
    rw [hag.ev hx', hx] at hxv
    simp only [TS.den] at hxv
    have hyv := Rp.eval (P := P) (F := F) (a := a) (Z := W.Z) (H := H) (V := V) (w := w) y fun t _ => hr.slot t
    rw [hag.ev hy', vj hd] at hyv
    have hH := hag.h id (by simp)
    have hbody : (H (.o id)).body = some (.box t (jo xs)) := by rw [hH]; simp [qr, hb, BD.den]
    have hver : (H (.o id)).ver = ver := by rw [hH]; simpa [qr] using hv
    generalize hva : a.eval x = v at hxv
    generalize hvb : a.eval y = u at hyv
    cases hxv with
    | pp _ _ _ _ _ hh =>
      obtain ⟨g, hg, rfl⟩ := hh (by rw [hbody]; rfl) hver
      obtain ⟨g', arr, e, _⟩ := hr.heap.box _ t _ hbody
      rw [e] at hg hva
      cases hg
      simp only [Jy, wcx] at hva
      have hu : u = .int .i64 d := by cases hyv; rfl
      subst hu
      have hlt := (wb3.1 hc).1
      obtain ⟨_, z1, c1⟩ := zdm hr.heap hbody e hlt
      obtain ⟨g2, hg2, hr2, htr⟩ := zq9 hr.heap hbody (off := off) (v := .int .i64 (w64 (m + d))) hlt rfl
      rw [e] at hg2; cases hg2
      refine ve (zy4 (P := P) ho (w' := w.setCell ⟨g', off, none⟩ (.int .i64 (w64 (m + d)))) (r := .value (.int .i64 (w64 (m + d)))) ?_) ⟨.u (.int .i64 (w64 (m + d))), _, V, ⟨by simp only [TS.den]; rfl, rfl⟩, ?_⟩
      · have := hT f _ hk ⟨g', off, none⟩ m d w (c1 _ hc) z1
        simpa [hva, hvb] using this
      · have he : qr id ⟨ver, some (.box t ys)⟩ = ⟨(H (.o id)).ver, some (.box t (setMany (jo xs) off [.u (.int .i64 (w64 (m + d)))]))⟩ := by
          rw [hver]
          simp only [qr, wcd, BD.den, e1]
          rfl
        rw [he]
        have hrel : Rel P W n F _ V a _ := ⟨hr2, hr.size, hr.defers, fun t => htr _ _ (hr.slot t)⟩
        exact hrel.put (Below.refl _ _) o.dst hdo (.u _)
  · cases h
def zwp (G : EG) (id ver : Nat) : Option (TypeId × List TS) := match Nat.beq (G id).ver ver with
  | true => match (G id).b with
    | some (.box t xs) => some (t, xs)
    | _ => none
  | false => none
theorem zm6 {G : EG} {id ver : Nat} {t : TypeId} {xs : List TS} (h : zwp G id ver = some (t, xs)) : G id = ⟨ver, some (.box t xs)⟩ := by
  unfold zwp at h
  split at h <;> try (cases h; done)
  rename_i hv
  split at h <;> cases h
  rename_i hb
  have hv := wb2 hv
  cases hG : G id with
  | mk v b => rw [hG] at hv hb; simp_all
def isI (k : IntKind) (n : Int) (s : TS) : Bool := match s with
  | .c (.int k' m) => decide (k' = k) && decide (m = n)
  | _ => false
theorem isI_ok {k : IntKind} {n : Int} {off : Nat} {xs : List TS} {s : TS} (h : ldT false 1 off xs = some s) (hi : isI k n s = true) : (jo xs)[off]? = some (.u (.int k n)) := by
  unfold isI at hi
  split at hi
  · rename_i k' m
    simp only [wb6, wc9] at hi
    obtain ⟨ea, eb⟩ := hi
    obtain ⟨_, rest, hr⟩ := zbf h
    simp only [TS.den, ea, eb] at hr
    have : ((jo xs).drop off)[0]? = some (.u (.int k n)) := by rw [hr]; rfl
    rwa [wcv, wdb] at this
  · cases hi
def zs1 (off : Nat) (k : IntKind) (n : Int) (xs : List TS) : Bool := match ldT false 1 off xs with
  | some s => isI k n s
  | none => false
theorem znd {off : Nat} {k : IntKind} {n : Int} {xs : List TS} (h : zs1 off k n xs = true) : (jo xs)[off]? = some (.u (.int k n)) := by
  unfold zs1 at h
  split at h
  · exact isI_ok (by assumption) h
  · cases h
def z4v (q p : TS) : EF := fun t => match t with
  | 0 => q
  | 1 => p
  | _ => .c undef
noncomputable def zzv (P : Program) (sy : SyT) (fuel : Nat) (f : FuncId) (x : IE) (cl : Call) (nid : Nat) (E : EF) (G : EG) : Option SK := match zjg E cl with
  | some (f', [.pt id off ver, .fn (.func g) a b]) => match Nat.beq f' f && yr P g with
    | false => none
    | true => match zwp G id ver with
      | none => none
      | some (t, xs) => match zs1 off .u32 0 xs && zs1 (off + 1) .i32 0 xs with
        | false => none
        | true => match znk (off + 1) 1 (.c (.int .i32 1)) xs with
          | none => none
          | some ys => match z01 P sy fuel x ⟨.value (.tmp 0), #[], #[]⟩ nid (z4v (.fn (.func g) a b) (.pt id off ver)) (G.set id ⟨ver, some (.box t ys)⟩) with
            | none => none
            | some q => some ⟨fun k => q.run fun s ws rt => match zwp (zn0 (G.set id ⟨ver, some (.box t ys)⟩) ws) id ver with
              | none => none
              | some (t2, zs) => match zs1 (off + 1) .i32 1 zs with
                | false => none
                | true => match znk off 1 (.c (.int .u32 1)) zs with
                  | none => none
                  | some z1 => match znk (off + 1) 1 (.c (.int .i32 0)) z1 with
                    | none => none
                    | some z2 => k (.tup []) (ws ++ [(id, ⟨ver, some (.box t2 z2)⟩)]) ⟨rt.rd, id :: rt.tc⟩⟩
  | _ => none
theorem zrn : ∀ {ws : List (Nat × GB)} {H : PHeap} {G : EG} {id : Nat}, AgN H G id → AgN (qf H ws) (zn0 G ws) id
  | [], H, G, id, h => h
  | x :: r, H, G, id, h => by
    simp only [qf, zn0]
    refine zrn (wa8 fun k hk => ?_)
    unfold zcj EG.set
    by_cases e : id = x.1
    · subst e
      simp [hk, wdm]
    · have : Nat.beq id x.1 = false := by cases h2 : Nat.beq id x.1; rfl; exact absurd (wb2 h2) e
      simp only [hk, wco, e, if_false, this]
      exact h.at hk
theorem zzz {P : Program} {sy : SyT} (hsy : znb P sy) (hm : P.follows .mixedOrders = true) {fuel : Nat} {f : FuncId} (hon : zlp P f) {x : IE} (hx : zwt P x) {o : Oper} {cl : Call} (ho : o.op = .call cl) {nid : Nat} {E : EF} {G : EG} {q : SK} (h : zzv P sy fuel f x cl nid E G = some q) : zer P o E G q := by
  unfold zzv at h
  split at h <;> try (cases h; done)
  rename_i f' id off ver g a b ht
  split at h <;> try (cases h; done)
  rename_i hfg
  simp only [wb6] at hfg
  have ef := wb2 hfg.1
  subst ef
  split at h <;> try (cases h; done)
  rename_i t xs hbx
  split at h <;> try (cases h; done)
  rename_i hcell
  simp only [wb6] at hcell
  split at h <;> try (cases h; done)
  rename_i ys hys
  split at h <;> cases h
  rename_i q' hq'
  have hG := zm6 hbx
  intro β k r hk
  obtain ⟨s, ws, rt, h1, hu, hloc⟩ := zq3 hsy hm hx (o := zrm) (cl := ⟨.value (.tmp 0), #[], #[]⟩) rfl hq' _ _ hk
  split at h1 <;> try (cases h1; done)
  rename_i t2 zs hb2
  split at h1 <;> try (cases h1; done)
  rename_i hc1
  split at h1 <;> try (cases h1; done)
  rename_i z1 hz1
  split at h1 <;> try (cases h1; done)
  rename_i z2 hz2
  have hG2 := zm6 hb2
  obtain ⟨e1, e2, e3⟩ := Zw hys
  obtain ⟨f1, f2, f3⟩ := Zw hz1
  obtain ⟨g1, g2, g3⟩ := Zw hz2
  have hI32 : (TS.c (.int .i32 1)).den.cells = [.u (.int .i32 1)] := by simp only [TS.den]; rfl
  have hU1 : (TS.c (.int .u32 1)).den.cells = [.u (.int .u32 1)] := by simp only [TS.den]; rfl
  have hI0 : (TS.c (.int .i32 0)).den.cells = [.u (.int .i32 0)] := by simp only [TS.den]; rfl
  rw [hI32] at e1
  rw [hU1] at f1
  rw [hI0, f1] at g1
  refine ⟨_, _, _, h1, fun k2 => ?_, ⟨fun i hi => ?_, fun W n F H hfl hd hF hH => ?_⟩⟩
  · show q'.run _ = _
    rw [hu]
    simp only [hb2, hc1, hz1, hz2]
  · rw [wdu, wcr] at hi
    rcases hi with hi | hi
    · exact weh _ (hloc.1 i hi)
    · simp at hi; subst hi; exact wec ..
  · have hag : Agr o E G [] F H := ⟨hF, fun id h => by cases h⟩
    have hAg : AgN H G id := hH id (.inr (by simp))
    have hHo : H (.o id) = ⟨ver, some (.box t (jo xs))⟩ := by rw [hAg.1, hG]; rfl
    have tg := zbl (F := F) (H := H) ho hag ht
    simp only [q8, TS.den] at tg
    have hys' : (⟨ver, some (.box t (setMany (jo xs) (off + 1) [.u (.int .i32 1)]))⟩ : zd4) = qr id ⟨ver, some (.box t ys)⟩ := by rw [← e1]; rfl
    have hA1 : ∀ {j : Nat}, AgN H G j → AgN (H.set (.o id) (qr id ⟨ver, some (.box t ys)⟩)) (G.set id ⟨ver, some (.box t ys)⟩) j := fun {j} hj => by
      refine wa8 fun k hk => ?_
      unfold EG.set
      by_cases e : j = id
      · subst e
        rw [wdm]
        cases k with
        | o i => cases hk; simp [PHeap.set, ym]
        | c i l =>
          cases hk
          have := hj.2 l
          rw [hG] at this
          simp only [PHeap.set, ym]
          rw [if_neg (by simp), this]; rfl
        | r y => cases hk
      · have : Nat.beq j id = false := by cases h2 : Nat.beq j id; rfl; exact absurd (wb2 h2) e
        rw [this]
        have hne : ¬ k = .o id := fun e2 => by subst e2; cases hk; exact e rfl
        simp only [PHeap.set, if_neg hne]
        exact hj.at hk
    have hA2 := zrn (ws := ws) (hA1 hAg)
    have hH2 : qf (H.set (.o id) (qr id ⟨ver, some (.box t ys)⟩)) ws (.o id) = ⟨ver, some (.box t2 (jo zs))⟩ := by rw [hA2.1, hG2]; rfl
    have hpe := PE.once (P := P) (W := W) (n := n) (H := H) (F := F) hon hd ho tg hfl (t := t) (cs := jo xs) (by rw [hHo]) (by rw [hHo]) (znd hcell.1) (znd hcell.2) hfg.2
      (p1 := s.den) (H2 := qf (H.set (.o id) (qr id ⟨ver, some (.box t ys)⟩)) ws) (fun W1 hg1 => by
        rw [hys']
        refine hloc.2 W1 2 _ _ ⟨hg1, fun t => ?_, fun k => ?_⟩ (fun t ht => by cases ht) (fun t ht => ?_) fun j hj => hA1 (hH j (by
            rcases hj with hj | hj
            · exact .inl hj
            · exact .inr (by rw [wdu]; exact wd4 _ hj)))
        · have h0 : Fl (TS.fn (.func g) a b).den := Jv _
          have h1 : Fl (TS.pt id off ver).den := Jv _
          simp only [TS.den] at h0 h1
          unfold z3m
          split
          · exact h0
          · exact h1
          · have := Jv (.c undef)
            first | exact Fl.unk | exact .unk | constructor
        · unfold PHeap.set
          split
          · have := (zpr (W := W1) hg1 (R := R0) (by intro i bd hb; cases hb) (fun _ => TS.c undef) (waj.set id ⟨ver, some (.box t ys)⟩)).h (.o id)
            simpa [qd, EG.set] using this
          · exact hfl.h k
        · simp [zrm, Op.operands, Call.operands] at ht
          subst ht
          simp only [z3m, z4v, TS.den])
      (t2 := t2) (cs2 := jo zs) (by rw [hH2]) (by rw [hH2]) (by omega) (znd hc1)
    refine fun V aa w hr => Oper.wp_mono (fun a' w' ⟨p, H', V', ⟨hp, hh⟩, hr'⟩ => ⟨p, H', V', ⟨by rw [hp]; simp only [TS.den, q8], ?_⟩, hr'⟩) (hpe V aa w hr)
    rw [hh, za2]
    simp only [qf]
    rw [← g1]
    funext k
    by_cases e : k.rt = some id
    · unfold zcj
      rw [if_pos e]
      cases k with
      | o i => cases e; simp [PHeap.set, ym, qr, BD.den]
      | c i l =>
        cases e
        have := hA2.2 l
        rw [hG2] at this
        simp only [PHeap.set, ym]
        rw [if_neg (by simp), this]; rfl
      | r y => cases e
    · unfold zcj
      rw [if_neg e]
      have hne : ¬ k = .o id := fun e2 => by subst e2; exact e rfl
      simp only [PHeap.set, if_neg hne]
      rw [Yh, Yh]
      simp only [PHeap.set, if_neg hne]
def zvd (oc : Option FuncId) (it : Nat → Nat → FuncId → Option IE) (ctx site : Nat) (o : Oper) (E : EF) : Option (FuncId × IE × Call) := match oc with
  | none => none
  | some f => match o.op with
    | .call cl => match zjg E cl with
      | some (f', [_, .fn (.func g) _ _]) => match Nat.beq f' f with
        | true => match it ctx site g with
          | some x => some (f, x, cl)
          | none => none
        | false => none
      | _ => none
    | _ => none
theorem ztf {oc : Option FuncId} {it : Nat → Nat → FuncId → Option IE} {ctx site : Nat} {o : Oper} {E : EF} {x : FuncId × IE × Call} (h : zvd oc it ctx site o E = some x) : o.op = .call x.2.2 ∧ oc = some x.1 ∧ ∃ ctx site f, it ctx site f = some x.2.1 := by
  unfold zvd at h
  split at h <;> try (cases h; done)
  split at h <;> try (cases h; done)
  rename_i cl ho
  split at h <;> try (cases h; done)
  split at h <;> try (cases h; done)
  split at h <;> cases h
  rename_i y hy
  exact ⟨ho, rfl, _, _, _, hy⟩
def stA (P : Program) (T : FuncId → Option AtK) (st : Sy1) : Sy1 := fun ctx nid site o E G => match o.op with
  | .call c => match z1v T c E G with
    | some q => some q
    | none => st ctx nid site o E G
  | _ => st ctx nid site o E G
theorem stA_ok {P : Program} {T : FuncId → Option AtK} (hT : z2u P T) {st : Sy1} (hst : ∀ ctx nid site o E G q, st ctx nid site o E G = some q → SOk P o E G q) : ∀ ctx nid site o E G q, stA P T st ctx nid site o E G = some q → SOk P o E G q := fun ctx nid site o E G q h => by
  unfold stA at h
  split at h
  · rename_i c ho
    split at h
    · rename_i q' hq; cases h; exact z0c hT ho hq
    · exact hst _ _ _ _ _ _ _ h
  · exact hst _ _ _ _ _ _ _ h
abbrev GlK := Nat → TypeId → Option Dyn
def GlOk (P : Program) (gl : GlK) : Prop := ∀ g t d, gl g t = some d → ∃ cs ag k p, (g, cs) ∈ glT ∧ asz P t = some (ag, k) ∧ zi ag k (cs.map PV.u) = some p ∧ Ref p (enc d.t d.x)
theorem PQ.glob {P : Program} {W : Env} {F : PFrame} {H : PHeap} {o : Oper} {g : Nat} {t k : Nat} {cs : List Value} {ag : Bool} {p : PV} (ho : o.op = .load t (.global g)) (hg : (g, cs) ∈ glT) (ha : asz P t = some (ag, k)) (hl : zi ag k (cs.map PV.u) = some p) : PQ P W o F H p := by
  refine wab fun V a w hr hx => ?_
  obtain ⟨_, hc⟩ := hr.gw (g, cs) hg
  obtain ⟨u, hu, hp⟩ := zdn (P := P) (W := W) (H := H) (V := V) (w := w) (b := g) (o := 0) ha (cs := cs.map PV.u) (fun i p hi => by
    obtain ⟨c, hc', rfl⟩ : ∃ c, cs[i]? = some c ∧ PV.u c = p := by simpa using hi
    exact ⟨c, by rw [wcx]; exact hc i c hc', .u c⟩) hl
  have e : a.eval (.global g) = .pointer (some ⟨g, 0, none⟩) := rfl
  exact ⟨u, by unfold execOp; rw [ho]; simp [e, Instr.loadAt, Instr.sureAddr, hu], hp⟩
def stG (P : Program) (gl : GlK) (st : Sy1) : Sy1 := fun ctx nid site o E G => match o.op with
  | .load t (.global g) => match gl g t with
    | some d => some (.now (.v d) [])
    | none => st ctx nid site o E G
  | _ => st ctx nid site o E G
theorem stG_ok {P : Program} {gl : GlK} (hG : GlOk P gl) {st : Sy1} (hst : ∀ ctx nid site o E G q, st ctx nid site o E G = some q → SOk P o E G q) : ∀ ctx nid site o E G q, stG P gl st ctx nid site o E G = some q → SOk P o E G q := fun ctx nid site o E G q h => by
  unfold stG at h
  split at h
  · rename_i t g ho
    split at h
    · rename_i d hd
      cases h
      obtain ⟨cs, ag, k, p, h1, h2, h3, h4⟩ := hG g t d hd
      exact SOk.now fun W F H hag => PQ.ref (PQ.glob ho h1 h2 h3) (by simpa only [TS.den] using h4)
    · exact hst _ _ _ _ _ _ _ h
  · exact hst _ _ _ _ _ _ _ h
def nilC {α β : Type} (l : List α) (x y : Option β) : Option β := match l with
  | [] => x
  | _ => y
def ztl (P : Program) (f : FuncId) (e : TypeId) (k : Nat) : Prop := yr P f = true ∧ PCall P f [.sl k []] (· = .fr e k [])
def zuy (P : Program) (cl : FuncId → Option (TypeId × Nat)) : Prop := ∀ f x, cl f = some x → ztl P f x.1 x.2
theorem zrz {P : Program} {f : FuncId} {e : TypeId} {k : Nat} (hg : yr P f = true)
    (hn : ∀ c w, Calls P f #[.slice none 0 c] w fun ex w' => ex = .returned (.slice none 0 0) ∧ w' = w)
    (hz : ∀ a c w, Calls P f #[.slice (some a) 0 c] w fun ex w' => ∃ v', ex = .returned v' ∧ w'.ownsRow w.heap.size e k v' 0 [] ∧ Below w.heap.size w w') : ztl P f e k := by
  refine ⟨hg, fun Z w vs _ hZ hm hR => ?_⟩
  obtain ⟨v, rfl, hv⟩ := zp0 (p := .sl k []) hR
  have fin : ∀ {v' : Value} {w' : World}, w'.ownsRow Z.m e k v' 0 [] → (∀ g, jv v' = some g → ¬ PZ Z waa V0 g) → ∃ p, p = PV.fr e k [] ∧ NoP p ∧ Rp Z waa V0 w' p v' := fun h1 h2 =>
    ⟨_, rfl, .fr _ _ _ fun c hc => by simp at hc, .fr e k [] _ [] (fun y hy => by cases hy) h1 h2 (fun u hu => by cases hu) fun i p u hi => by simp at hi⟩
  have zero : ∀ a c, v = .slice (some a) 0 c → Calls P f [v].toArray w (fun ex w' => ∃ v p, ex = .returned v ∧ p = PV.fr e k [] ∧ NoP p ∧ Rp Z waa V0 w' p v ∧ Below w.heap.size w w') := fun a c ev => by
    subst ev
    refine (hz a c w).mono fun ex w' ⟨v', h1, h2, h3⟩ => ?_
    obtain ⟨p, g1, g2, g3⟩ := fin (v' := v') (w' := w') (yy (w := w') h2 hm fun _ _ _ => rfl) fun g hg hz => by
      have := (Jg h2 hg).1
      have := hZ g (yp.1 hz)
      omega
    exact ⟨v', p, h1, g1, g2, g3, h3⟩
  cases hv with
  | nil k a c =>
    cases a with
    | some a => exact zero a c rfl
    | none =>
      refine (hn c w).mono fun ex w' ⟨h1, h2⟩ => ?_
      subst h2
      obtain ⟨p, g1, g2, g3⟩ := fin (v' := .slice none 0 0) (w' := w') ⟨by simp, .inl ⟨rfl, rfl⟩⟩ fun g hg => by cases hg
      exact ⟨_, p, h1, g1, g2, g3, Below.refl _ _⟩
  | sl k xs b o c g hu hlen hz' hb h1 h2 => exact zero _ _ rfl
structure NilS where
  t : Ty
  l : List t.D
  q : SR
def zz7 (cl : FuncId → Option (TypeId × Nat)) (o : Oper) (nid : Nat) (E : EF) (G : EG) : Option NilS := match o.op with
  | .call c => match vz o with
    | false => none
    | true => match zjg E c with
      | some (f, [.v ⟨.sl t, l⟩]) => match cl f with
        | none => none
        | some x => match Nat.beq x.2 (wid t) with
          | false => none
          | true => some ⟨t, l, ⟨Unit, true, some (), fun _ => .own nid ((G nid).ver + 1), fun _ => [(nid, ⟨(G nid).ver + 1, some (.row x.1 t [])⟩)], [], [nid], []⟩⟩
      | _ => none
  | _ => none
theorem zzx {P : Program} {cl : FuncId → Option (TypeId × Nat)} (hcl : zuy P cl) {o : Oper} {nid : Nat} {E : EF} {G : EG} {y : NilS} (h : zz7 cl o nid E G = some y) (hl : y.l = []) : SOk P o E G y.q := by
  unfold zz7 at h
  split at h <;> try (cases h; done)
  rename_i c ho
  split at h <;> try (cases h; done)
  rename_i hds
  obtain ⟨d, hds⟩ := qz hds
  split at h <;> try (cases h; done)
  rename_i f t l ht
  split at h <;> try (cases h; done)
  rename_i x hx
  split at h <;> cases h
  rename_i hw
  have hw := ju hw
  have hl : l = [] := hl
  subst hl
  obtain ⟨hg, hc⟩ := hcl f x hx
  refine ⟨fun _ => rfl, fun r hr W n F H hfl hd hF hH => ?_⟩
  have hag : Agr o E G [] F H := ⟨hF, fun id h => by cases h⟩
  have hnid := hH nid (.inr (by simp))
  have e : (H (.o nid)).ver = (G nid).ver := by rw [hnid.1]; rfl
  have htg := zbl ho hag ht
  have hden : q8 [TS.v ⟨.sl t, []⟩] = [PV.sl x.2 []] := by rw [hw]; rfl
  rw [hden] at htg
  refine wa5 (id := .o nid) (xs := []) hds (hd d hds) ho htg hg ⟨rfl, fun i p q h1 h2 => ?_⟩ (fun p hp => ?_) hc (fun p hp => by simp at hp) ⟨by simp only [TS.den, e], ?_⟩
  · rw [h1] at h2; cases h2
    have hp : p = PV.sl x.2 [] := by
      have := wb8 h1
      simpa using this
    subst hp
    exact fun P W V w hw v hv => hv.noF (.sl _ _ fun c hc => by cases hc) fun b _ hz hz' => hz (.inl (yp.1 hz'))
  · simp only [wcb] at hp
    subst hp
    exact .sl _ _ fun c hc => by cases hc
  · show _ = H.set (.o nid) (qr nid _)
    simp only [qr, wcd, BD.den, e, hw]
    rfl
def clnK {α : Type} (l : List α) (a b : SK) : SK := ⟨fun k => nilC l (a.run k) (b.run k)⟩
theorem z2x {P : Program} {o : Oper} {E : EF} {G : EG} {α : Type} {l : List α} {a b : SK} (ha : l = [] → zer P o E G a) (hb : zer P o E G b) : zer P o E G (clnK l a b) := by
  cases l with
  | nil => exact ha rfl
  | cons x l => exact hb
structure RE where
  f : FuncId
  n : Nat
  rs : List ResultVar
  b : Nat
  un : List Nat
  hin : LH
  hout : LH
  g : DL hin.tys → Option (DL hout.tys)
def zz2 (P : Program) (x : RE) : Prop := ∃ fn c, P.funcs[x.f]? = some fn ∧ fn.body = some c ∧ fn.ntmps = x.n ∧ fn.results.toList = x.rs ∧ yr P x.f = true ∧ ∀ t r, x.g t = some r →
  ∃ e0, (e0 = .normal ∨ e0 = .ret) ∧ OutC P x.b x.n c (unE x.hin (vq _ t)) (unG x.hin (vq _ t)) e0 (unE x.hout (vq _ r)) (unG x.hout (vq _ r))
def z19 (P : Program) (x : RE) (cl : Call) (nid : Nat) (E : EF) (G : EG) : Option SK := match zjg E cl with
  | none => none
  | some (f, az) => match Nat.beq f x.f && Nat.ble az.length x.n with
    | false => none
    | true => match zin G 1000 (V5 G (zb9 az)) [] with
      | none => none
      | some seen => match zif x.un true seen 0 with
        | L0 => match L0 ++ zif x.un false seen 0 with
          | L => match zc6 L && Nat.beq L0.length x.b with
            | false => none
            | true => some ⟨fun k => meet x.b x.hin (fun t => ja (x.g t) fun r => inlX P ⟨x.f, x.n, x.rs, .skip, fun _ => none, 0, x.un⟩ L x.b nid G k .ret 0 (unE x.hout (vq _ r)) (unG x.hout (vq _ r))) (z05 (z7 (mu1 L L.length G) az)) (inG L G)⟩
theorem zvz {P : Program} {x : RE} (hx : zz2 P x) {o : Oper} {cl : Call} (ho : o.op = .call cl) {nid : Nat} {E : EF} {G : EG} {q : SK} (h : z19 P x cl nid E G = some q) : zer P o E G q := by
  obtain ⟨fn, c, hf, hb, hn, hr, hg, hC⟩ := hx
  unfold z19 at h
  split at h <;> try (cases h; done)
  rename_i f az ht
  split at h <;> try (cases h; done)
  rename_i hfx
  simp only [wb6] at hfx
  have hf1 := ju hfx.1
  have hf2 := wc0 hfx.2
  subst hf1
  split at h <;> try (cases h; done)
  rename_i seen hseen
  simp only at h
  split at h <;> try (cases h; done)
  rename_i hnd
  simp only [wb6] at hnd
  cases h
  intro β k r hk
  obtain ⟨t, hp, hj, hu⟩ := Qj hk
  cases hgt : x.g t with
  | none => rw [hgt] at hj; cases hj
  | some r0 =>
    rw [hgt] at hj
    replace hj : inlX P ⟨x.f, x.n, x.rs, .skip, fun _ => none, 0, x.un⟩ (zif x.un true seen 0 ++ zif x.un false seen 0) x.b nid G k .ret 0 (unE x.hout (vq _ r0)) (unG x.hout (vq _ r0)) = some r := hj
    obtain ⟨_, s, NL, hs, hex, hkr, hu2⟩ := zo1 hj
    obtain ⟨e0, he0, hoc⟩ := hC t r0 hgt
    have hlb := ju hnd.2
    refine ⟨_, _, _, hkr, fun k2 => ?_, fun id hid => by rw [Yz] at hid; exact hid, fun W n F H hfl hd hF hH => ?_⟩
    · refine (hu _).trans ?_
      rw [hgt]
      exact hu2 k2
    · have hag : Agr o E G [] F H := ⟨hF, fun id h => by cases h⟩
      have hout := OutC.into (Q6 (P := P) (n := x.n) hp) hoc
      refine wb1 hd ho (zbl ho hag ht) hg hf hb (by rw [hn]; exact hf2) hfl (zsr hex) (zax hnd.1) (fun i hi => hH i (.inr (by rw [Yz]; exact hi))) he0 (fun W1 R1 hg1 hr1 => by rw [hn]; exact hout W1 R1 hg1 hr1) ?_
      rw [hr]; exact hs
def zv3 (re : FuncId → Option RE) (o : Oper) (E : EF) : Option (RE × Call) := match o.op with
  | .call c => match zjg E c with
    | some (f, _) => match re f with
      | some x => some (x, c)
      | none => none
    | none => none
  | _ => none
theorem zmg {re : FuncId → Option RE} {o : Oper} {E : EF} {x : RE × Call} (h : zv3 re o E = some x) : o.op = .call x.2 ∧ ∃ f, re f = some x.1 := by
  unfold zv3 at h
  split at h <;> try (cases h; done)
  rename_i c ho
  split at h <;> try (cases h; done)
  rename_i f az ht
  split at h <;> cases h
  rename_i y hy
  exact ⟨ho, _, hy⟩
noncomputable def syR (P : Program) (oc : Option FuncId) (cl : FuncId → Option (TypeId × Nat)) (ky : TypeId → Option KY) (li : Nat → Nat → Option LK) (st : Sy1) (it : Nat → Nat → FuncId → Option IE) (re : FuncId → Option RE) (fuel : Nat) : Nat → SyT
  | 0 => fun ctx nid site o E G => match zv3 re o E with
    | some x => z19 P x.1 x.2 nid E G
    | none => stR P ky (li ctx (zlb o)) (st ctx nid site o E G) nid o E G
  | d + 1 => fun ctx nid site o E G => match zv3 re o E with
    | some x => z19 P x.1 x.2 nid E G
    | none => match zvd oc it ctx site o E with
      | some x => zzv P (syR P oc cl ky li st it re fuel d) fuel x.1 x.2.1 x.2.2 nid E G
      | none => match zz8 it ctx site o E with
        | some x => match zz7 cl o nid E G with
          | none => z01 P (syR P oc cl ky li st it re fuel d) fuel x.1 x.2 nid E G
          | some y => match z01 P (syR P oc cl ky li st it re fuel d) fuel x.1 x.2 nid E G with
            | none => none
            | some q => some (clnK y.l (y.q.k G) q)
        | none => stR P ky (li ctx (zlb o)) (st ctx nid site o E G) nid o E G
theorem zqf {P : Program} {oc : Option FuncId} (hoc : ∀ f, oc = some f → zlp P f) {cl : FuncId → Option (TypeId × Nat)} (hcl : zuy P cl) {ky : TypeId → Option KY} (hky : znl P ky) {li : Nat → Nat → Option LK} {st : Sy1} {it : Nat → Nat → FuncId → Option IE} {re : FuncId → Option RE} {fuel : Nat} (hm : P.follows .mixedOrders = true) (hst : ∀ ctx nid site o E G q, st ctx nid site o E G = some q → SOk P o E G q) (hit : ∀ ctx site f x, it ctx site f = some x → zwt P x) (hre : ∀ f x, re f = some x → zz2 P x) : ∀ d, znb P (syR P oc cl ky li st it re fuel d)
  | 0 => fun ctx nid site o E G q h => by
    simp only [syR] at h
    split at h
    · rename_i x hx
      obtain ⟨ho, f, hf⟩ := zmg hx
      exact zvz (hre _ _ hf) ho h
    · exact z0d hky (fun x hx => hst _ _ _ _ _ _ _ hx) h
  | d + 1 => fun ctx nid site o E G q h => by
    simp only [syR] at h
    split at h
    · rename_i x hx
      obtain ⟨ho, f, hf⟩ := zmg hx
      exact zvz (hre _ _ hf) ho h
    · split at h
      · rename_i x hx
        obtain ⟨ho, h1, ctx', site', f, hf⟩ := ztf hx
        exact zzz (zqf hoc hcl hky hm hst hit hre d) hm (hoc _ h1) (hit _ _ _ _ hf) ho h
      · split at h
        · rename_i x hx
          obtain ⟨ho, ctx', site', f, hf⟩ := zt7 hx
          split at h
          · exact zq3 (zqf hoc hcl hky hm hst hit hre d) hm (hit _ _ _ _ hf) ho h
          · rename_i y hy
            split at h <;> cases h
            rename_i q2 hq2
            exact z2x (fun e => (zzx hcl hy e).k) (zq3 (zqf hoc hcl hky hm hst hit hre d) hm (hit _ _ _ _ hf) ho hq2)
        · exact z0d hky (fun x hx => hst _ _ _ _ _ _ _ hx) h
noncomputable def lk {α : Type} (l : List (Nat × α)) (k : Nat) : Option α := List.rec (motive := fun _ => Option α) none (fun e _ ih => cond (Nat.beq k e.1) (some e.2) ih) l
noncomputable def hsN (l : List Nat) (k : Nat) : Bool := List.rec (motive := fun _ => Bool) false (fun a _ ih => cond (Nat.beq k a) true ih) l
noncomputable def lkL {α : Type} (l : List (Nat × List α)) (k : Nat) : List α := List.rec (motive := fun _ => List α) [] (fun e _ ih => cond (Nat.beq k e.1) e.2 ih) l
theorem Z2 {α : Type} {a : Nat} {y : α} {l : List (Nat × α)} {f : Nat} {x : α} (h : lk ((a, y) :: l) f = some x) : f = a ∧ y = x ∨ lk l f = some x := by
  have h : cond (Nat.beq f a) (some y) (lk l f) = some x := h
  cases hb : Nat.beq f a
  · rw [hb] at h; exact .inr h
  · rw [hb] at h; exact .inl ⟨wb2 hb, wen h⟩
structure Cfg where
  zt : ZT
  zt2 : ZT
  zy : ZY
  ky : TypeId → Option KY
  oc : Option FuncId := none
  at_ : FuncId → Option AtK := fun _ => none
  cl : FuncId → Option (TypeId × Nat) := fun _ => none
  gl : GlK := fun _ _ => none
structure zzh (c : Cfg) : Prop where
  zt : zai Tryz.prog c.zt
  zt2 : zai Tryz.prog c.zt2
  ky : znl Tryz.prog c.ky
  oc : ∀ f, c.oc = some f → zlp Tryz.prog f := by intro f h; cases h
  at_ : z2u Tryz.prog c.at_ := by intro f k h; cases h
  gl : GlOk Tryz.prog c.gl := by intro g t d h; cases h
  cl : zuy Tryz.prog c.cl := by intro f x h; cases h
noncomputable def prsK (cf : Cfg) (bds : List (Nat × List Nat)) (lits : List (Nat × List (Nat × LK))) (S : zuh) (c : Nat) : Prm := { bd := hsN (lkL bds c), lit := lk (lkL lits c), zt := cf.zt, zt2 := cf.zt2, zy := cf.zy, S := S }
noncomputable def fzK (l : List (Nat × List (Nat × Ty))) (c t : Nat) : List (Nat × Ty) := lkL l (c * 1000000 + t)
noncomputable def frK (l : List Nat) (c t : Nat) : Bool := hsN l (c * 1000000 + t)
noncomputable def itK (l : List (Nat × IE)) (c t f : Nat) : Option IE := lk l ((c * 1000000 + t) * 10000 + f)
noncomputable def syK (cf : Cfg) (bds : List (Nat × List Nat)) (lits : List (Nat × List (Nat × LK))) (fz : List (Nat × List (Nat × Ty))) (frs : List Nat) (S : List (Nat × PF)) (T : List (Nat × FF)) (it : List (Nat × IE)) (re : List (Nat × RE)) (nn d : Nat) : SyT :=
  syR Tryz.prog cf.oc cf.cl cf.ky (fun c t => lk (lkL lits c) t) (stG Tryz.prog cf.gl (stA Tryz.prog cf.at_ (z00 cf.ky (prsK cf bds lits (lk S)) (fzK fz) (frK frs) (lk T)))) (itK it) (lk re) nn d
def qk (f : FuncId) (x : PF) : Prop := zpo Tryz.prog f x.ats x.rt x.g
def FFOk (f : FuncId) (x : FF) : Prop := zgg Tryz.prog f x.ats x.e x.rt x.g
theorem tn : Qh Tryz.prog (lk []) := fun f x h => by cases h
theorem tc {f : FuncId} {y : PF} {l : List (Nat × PF)} (h : qk f y) (hl : Qh Tryz.prog (lk l)) : Qh Tryz.prog (lk ((f, y) :: l)) := fun g x hx => by
  rcases Z2 hx with ⟨rfl, rfl⟩ | hx
  · exact h
  · exact hl g x hx
theorem gn : zaf Tryz.prog (lk []) := fun f x h => by cases h
theorem gc {f : FuncId} {y : FF} {l : List (Nat × FF)} (h : FFOk f y) (hl : zaf Tryz.prog (lk l)) : zaf Tryz.prog (lk ((f, y) :: l)) := fun g x hx => by
  rcases Z2 hx with ⟨rfl, rfl⟩ | hx
  · exact h
  · exact hl g x hx
theorem cn : zuy Tryz.prog (lk []) := fun f x h => by cases h
theorem cc {f : FuncId} {y : TypeId × Nat} {l : List (Nat × (TypeId × Nat))} (h : ztl Tryz.prog f y.1 y.2) (hl : zuy Tryz.prog (lk l)) : zuy Tryz.prog (lk ((f, y) :: l)) := fun g x hx => by
  rcases Z2 hx with ⟨rfl, rfl⟩ | hx
  · exact h
  · exact hl g x hx
def zsd (l : List (Nat × IE)) : Prop := ∀ k x, lk l k = some x → zwt Tryz.prog x
noncomputable abbrev ie (f : FuncId) (fn : Func) (h : Nat → Option HK) (ctx : Nat) (un : List Nat) : IE := ⟨f, fn.ntmps, fn.results.toList, fn.body.getD .skip, h, ctx, un⟩
noncomputable def ckI (f : FuncId) (fn : Func) : Bool := fn.body.isSome && yr Tryz.prog f
theorem itn : zsd [] := fun k x h => by cases h
theorem zh7 {fn : Func} (h : fn.body.isSome = true) : fn.body = some (fn.body.getD .skip) := by
  cases hb : fn.body with
  | none => rw [hb] at h; cases h
  | some c => rfl
theorem itc (k : Nat) {f : FuncId} {fn : Func} (hf : Tryz.prog.funcs[f]? = some fn) (h : Nat → Option HK) (ctx : Nat) (un : List Nat) {l : List (Nat × IE)} (hl : zsd l) (hc : ckI f fn = true) : zsd ((k, ie f fn h ctx un) :: l) := fun g x hx => by
  rcases Z2 hx with ⟨rfl, rfl⟩ | hx
  · unfold ckI at hc
    rw [wb6] at hc
    exact ⟨fn, hf, zh7 hc.1, rfl, rfl, hc.2⟩
  · exact hl g x hx
noncomputable def ckF (f : FuncId) (fn : Func) (ats : List Ty) : Bool := fn.body.isSome && (Nat.ble ats.length fn.ntmps && yr Tryz.prog f)
def zvp (l : List (Nat × RE)) : Prop := ∀ f x, lk l f = some x → zz2 Tryz.prog x
theorem rn : zvp [] := fun k x h => by cases h
theorem z1w {cf : Cfg} (hcf : zzh cf) {bds : List (Nat × List Nat)} {lits : List (Nat × List (Nat × LK))} {fz : List (Nat × List (Nat × Ty))} {frs : List Nat} {S : List (Nat × PF)} {T : List (Nat × FF)} {it : List (Nat × IE)} {re : List (Nat × RE)} {nn d : Nat} (hS : Qh Tryz.prog (lk S)) (hT : zaf Tryz.prog (lk T)) (hI : zsd it) (hR : zvp re) : znb Tryz.prog (syK cf bds lits fz frs S T it re nn d) :=
  zqf hcf.oc hcf.cl hcf.ky mixed (stG_ok hcf.gl (stA_ok hcf.at_ (z1y hcf.ky hT (fun _ => hS) (fun _ => hcf.zt) (fun _ => hcf.zt2)))) (fun _ _ _ _ h => hI _ _ h) hR d
section
variable {cf : Cfg} (hcf : zzh cf) {f : FuncId} {fn : Func} (hf : Tryz.prog.funcs[f]? = some fn) (nn d : Nat) (bds : List (Nat × List Nat)) (lits : List (Nat × List (Nat × LK))) (fz : List (Nat × List (Nat × Ty))) (frs : List Nat) {S : List (Nat × PF)} {T : List (Nat × FF)} {it : List (Nat × IE)} {re : List (Nat × RE)} (hI : zsd it) (h : Nat → Option HK)
include hcf hf hI
theorem mkP (hR : zvp re) (hT : zaf Tryz.prog (lk T)) (hS : Qh Tryz.prog (lk S)) {x : PF} (hc : ckF f fn x.ats = true) (hk : ∀ t, funP Tryz.prog (syK cf bds lits fz frs S T it re nn d) h fn.ntmps fn.results.toList (fn.body.getD .skip) x.ats x.rt nn t = x.g t) : qk f x := by
  unfold ckF at hc
  simp only [wb6] at hc
  have h := z2k (z1w hcf (bds := bds) (lits := lits) (fz := fz) (frs := frs) (nn := nn) (d := d) hS hT hI hR) mixed (hint := h) (ats := x.ats) (rt := x.rt) (nn := nn) hf (zh7 hc.1) rfl rfl hc.2.1 hc.2.2
  exact ⟨h.1, fun t r hr => h.2 t r ((hk t).trans hr)⟩
theorem mkF (hR : zvp re) (hT : zaf Tryz.prog (lk T)) (hS : Qh Tryz.prog (lk S)) {x : FF} (hc : ckF f fn x.ats = true) (hk : ∀ t, funF Tryz.prog (syK cf bds lits fz frs S T it re nn d) h fn.ntmps fn.results.toList (fn.body.getD .skip) x.ats x.e x.rt nn t = x.g t) : FFOk f x := by
  unfold ckF at hc
  simp only [wb6] at hc
  have h := z4f (z1w hcf (bds := bds) (lits := lits) (fz := fz) (frs := frs) (nn := nn) (d := d) hS hT hI hR) mixed (hint := h) (ats := x.ats) (ee := x.e) (rt := x.rt) (nn := nn) hf (zh7 hc.1) rfl rfl hc.2.1 hc.2.2
  exact ⟨h.1, fun t r hr => h.2 t r ((hk t).trans hr)⟩
end
def vi (n : Nat) : Nat × HS := (n, .v (.int .i64))
def vb (n : Nat) : Nat × HS := (n, .v .bool)
def vl (n : Nat) : Nat × HS := (n, .v (.sl (.int .i64)))
def vo (n X : Nat) : Nat × HS := (n, .own X)
def vp (n X : Nat) : Nat × HS := (n, .pt X 0)
noncomputable def hbz (l : List HB) (k : Nat) : List (Nat × HB) := List.rec (motive := fun _ => Nat → List (Nat × HB)) (fun _ => []) (fun b _ ih k => (k, b) :: ih (k + 1)) l k
noncomputable def me (s : List (Nat × HS)) (l : List HB) (n : Nat) : HK := .meet ⟨s, hbz l 0, n⟩
theorem zn {P : Program} : zai P (lk (α := List TS) []) := fun t xs h => by cases h
theorem zc {P : Program} {t : Nat} {xs : List TS} {l : List (Nat × List TS)} (h1 : (zio P t).isSome = true) (h2 : ((zio P t).getD []).all Value.oneCell' = true) (h3 : ((zio P t).getD []).map .u = jo xs) (hl : zai P (lk l)) : zai P (lk ((t, xs) :: l)) := fun g ys hy => by
  rcases Z2 hy with ⟨rfl, rfl⟩ | hy
  · obtain ⟨us, hu⟩ := wcp.1 h1
    rw [hu] at h2 h3
    exact ⟨us, hu, h2, wao h3⟩
  · exact hl g ys hy
theorem FFOk.pure {f : FuncId} {x : FF} (h : FFOk f x) : qk f ⟨x.ats, .sl x.rt, x.g⟩ := ⟨h.1, fun t r hr => (h.2 t r hr).forget⟩
end
end Go.Proofs.YtiafpechgjopfaaGreatDoor.T
namespace Go.Proofs.YtiafpechgjopfaaGreatDoor
noncomputable section
open _root_.Go.Proofs.Tryz
set_option maxRecDepth 100000
set_option maxHeartbeats 8000000
set_option linter.unusedVariables false
set_option linter.unusedSimpArgs false
set_option linter.defProp false
open List (replicate range)
open Go.ChangeShapes Go.WideShapes Go.ChangeAt Go.RowKit
theorem zee {H : Type} {enc : TypeId × Value → H} {P : Program} (hl : laidOutB P = true) {W W' : World} (hb : Below W.heap.size W W') :
    ∀ (ts : List TypeId) (vs : List Value) (ds : List (DataW H)) (ps : List MemPlace), (∀ t ∈ ts, P.readableRec t = true ∧ t < P.types.size) → (∀ x ∈ ps, x.block < W.heap.size) →
      DataW.TrodAll enc P W 0 (fun _ => true) true ts vs ds ps → DataW.TrodAll enc P W' 0 (fun b => decide (b < W.heap.size)) true ts vs ds ps
  | [], vs, ds, ps, _, _, h => by
    obtain ⟨rfl, rfl, rfl⟩ := trodAll_nil h
    exact trodAll_mk0
  | t :: ts, vs, ds, ps, hr, hlt, h => by
    obtain ⟨v, vs', d, ds', p, q, rfl, rfl, rfl, h0, h1⟩ := trodAll_cons h
    have ht := hr t (by simp)
    exact trodAll_cons_mk (Below.trod hl ht.1 ht.2 h0 hb fun x hx => hlt x (by simp [hx]))
      (zee hl hb ts vs' ds' q (fun t ht => hr t (by simp [ht])) (fun x hx => hlt x (by simp [hx])) h1)
theorem law_post {H : Type} {enc : TypeId × Value → H} {P : Program} {f : Func} {s : ChangeSpec} {tB : TypeId} (hl : laidOutB P = true) (hr : (f.params.toList.all fun t => P.readableRec t && decide (t < P.types.size)) = true)
    (hvars : s.vars = []) (hbool : f.resultTypes = #[tB]) (hB : P.underlying tB = some .bool) {W W' : World} {args : Array Value} {ds gs : List (DataW H)} {before : List MemPlace}
    (hW : DataW.Whole enc P f.params.toList s.vars false W args.toList ds gs before) (hfn : s.fn H ds = { results := [.lit (.bool true)], args := ds }) (hb : Below W.heap.size W W') :
    s.post enc P f false true false false W args (.bool true) W' := by
  have hW' := hW
  obtain ⟨p, q, hA, hV, hbef, _, _⟩ := hW
  rw [hvars] at hV
  obtain ⟨rfl, rfl⟩ := trodVars_none hV
  rw [wcl] at hbef
  subst hbef
  have hlt : ∀ x ∈ before, x.block < W.heap.size := fun x hx => by simpa using hW'.lt x hx
  have hr' : ∀ t ∈ f.params.toList, P.readableRec t = true ∧ t < P.types.size := by
    intro t ht
    have := wcz.1 hr t ht
    simpa using this
  refine ⟨ds, [], before, [], before, [], hW', ?_, ?_, ?_, hb.frame _, fun h => by cases h⟩
  · rw [wcl, hfn, hbool]
    exact trodAll_mk1 (shut_bool hB true)
  · rw [wcl, hfn]
    exact zee hl hb _ _ _ _ hr' hlt hA
  · rw [wcl, hfn, hvars]
    rfl
open Go Go.RowKit Go.ChangeShapes Go.WideShapes L
abbrev F0 : ZM := ⟨fun _ => False, 0⟩
abbrev B (b : Bool) : PV := .u (.bool b)
abbrev S (s : ByteArray) : PV := .u (.string s)
def OkI (k : IntKind) (z : Int) : Prop := (Lit.int k z).wf = true
section
variable {w : World} {Z : ZM} {H : PHeap} {V : Nm → Value}
theorem rl_nil : RpL Z H V w [] [] := ⟨rfl, fun i p v h => by simp at h⟩
theorem rl_cons {p : PV} {v : Value} {ps : List PV} {vs : List Value} (h : Rp Z H V w p v) (hs : RpL Z H V w ps vs) : RpL Z H V w (p :: ps) (v :: vs) := ⟨by simp [hs.1], fun i a b h1 h2 => by
  cases i with
  | zero => simp at h1 h2; subst h1; subst h2; exact h
  | succ i => exact hs.2 i a b (by simpa using h1) (by simpa using h2)⟩
theorem rl_one {p : PV} {v : Value} (h : RpL Z H V w [p] [v]) : Rp Z H V w p v := h.2 0 p v rfl rfl
end
section
variable {H : Type} {enc : TypeId × Value → H} {P : Program} {w : World} {base : Nat} {spare : Nat → Bool} {held : Bool}
def Opens (enc : TypeId × Value → H) (P : Program) (w : World) (base : Nat) (spare : Nat → Bool) (held : Bool) (t : TypeId) {α : Type} (rep : α → PV) (C : α → Prop) : Prop :=
  ∀ (fuel : Nat) (cs : List Value) (x : DataW H × List MemPlace), DataW.trod enc P w base spare held fuel t cs = some x → ∃ a, RpL F0 waa V0 w (rep a).cells cs ∧ C a
theorem zx6 {t : TypeId} {k : IntKind} (ht : P.underlying t = some (.int k)) : Opens enc P w base spare held t (fun z => .u (.int k z)) (OkI k) := fun fuel cs x h => by
  obtain ⟨n, rfl, _, hw⟩ := DataW.trod_int ht h
  exact ⟨n, rl_cons (.u _) rl_nil, hw⟩
theorem zxe {t : TypeId} (ht : P.underlying t = some .string) : Opens enc P w base spare held t S (fun s => s.size ≤ maxLen) := fun fuel cs x h => by
  obtain ⟨n, rfl, _, hs⟩ := DataW.trod_string ht h
  exact ⟨n, rl_cons (.u _) rl_nil, hs⟩
end
theorem zw9 {f : FuncId} {qs : List PV} (h : PCall Tryz.prog f qs (· = B true)) {w : World} {vs : List Value} (hgw : L.GW w) (hr : RpL F0 waa V0 w qs vs) : Calls Tryz.prog f vs.toArray w fun e w' => e = .returned (.bool true) ∧ Below w.heap.size w w' :=
  (h F0 w vs hgw (fun b hb => False.elim hb) (wdq _) hr).mono fun e w' ⟨v, p, he, hp, _, hR, hb⟩ => by
    subst hp
    rw [rpu hR] at he
    exact ⟨he, hb⟩
end
end Go.Proofs.YtiafpechgjopfaaGreatDoor
namespace Go.Proofs.YtiafpechgjopfaaGreatDoor.T
noncomputable section
open _root_.Go.Proofs.Tryz
set_option maxRecDepth 100000
set_option maxHeartbeats 8000000
set_option linter.unusedVariables false
set_option linter.unusedSimpArgs false
set_option linter.defProp false
open List (replicate range)
open Go Go.RowKit Go.ChangeShapes Go.WideShapes L
instance {n : Nat} {α : Type} [Inhabited α] : Inhabited (Arr n α) := ⟨⟨replicate n default, wb4⟩⟩
def OkD : (t : Ty) → t.D → Prop
  | .int k, z => OkI k z
  | .bool, _ => True
  | .str, s => s.length ≤ maxLen
  | .sl t, l => l.length ≤ maxLen ∧ ∀ x ∈ l, OkD t x
  | .ref _, _ => True
  | .arr _ t, a => ∀ x ∈ a.l, OkD t x
  | .nil, _ => True
  | .cons a r, x => OkD a x.1 ∧ OkD r x.2
  | .st r, x => OkD r x
  | .tup r, x => True
section
variable {H : Type} {ec : TypeId × Value → H} {P : Program} {w : World} {base : Nat} {spare : Nat → Bool} {held : Bool}
abbrev OpenT (ec : TypeId × Value → H) (P : Program) (w : World) (base : Nat) (spare : Nat → Bool) (held : Bool) (t : TypeId) (y : Ty) : Prop := Opens ec P w base spare held t (enc y) (OkD y)
theorem op_int {t : TypeId} {k : IntKind} (ht : P.underlying t = some (.int k)) : OpenT ec P w base spare held t (.int k) := zx6 ht
theorem op_str {t : TypeId} (ht : P.underlying t = some .string) : OpenT ec P w base spare held t .str := fun fuel cs x h => by
  obtain ⟨s, h1, h2⟩ := zxe ht fuel cs x h
  exact ⟨s.data.toList, h1, h2⟩
end
theorem row_pure {f : FuncId} {ats : List Ty} {g : DL ats → Option Bool} (h : zpo Tryz.prog f ats .bool g) {t : DL ats} (hg : g t = some true) {w : World} {vs : List Value} (hr : RpL F0 waa V0 w (pvs (vq ats t)) vs) (hgw : GW w := by intro x h; cases h) : Calls Tryz.prog f vs.toArray w fun e w' => e = .returned (.bool true) ∧ Below w.heap.size w w' :=
  zw9 (h.2 t true hg) hgw hr
def Fit (l : List Nat) : Prop := ∀ n ∈ l, n ≤ reachBytes
section
variable {H : Type} {enc : TypeId × Value → H} {P : Program} {w : World} {base : Nat} {spare : Nat → Bool} {held : Bool}
def OpensS (enc : TypeId × Value → H) (P : Program) (w : World) (base : Nat) (spare : Nat → Bool) (held : Bool) (t : TypeId) {α : Type} (rep : α → PV) (C : α → Prop) : Prop :=
  ∀ (fuel : Nat) (cs : List Value) (x : DataW H × List MemPlace), DataW.trod enc P w base spare held fuel t cs = some x → Fit (x.1.weights P t) → ∃ a, RpL F0 waa V0 w (rep a).cells cs ∧ C a
end
section
variable {H : Type} {ec : TypeId × Value → H} {P : Program} {w : World} {base : Nat} {spare : Nat → Bool} {held : Bool}
theorem os_of {t : TypeId} {y : Ty} (h : OpenT ec P w base spare held t y) : OpensS ec P w base spare held t (enc y) (OkD y) := fun fuel cs x h1 _ => h fuel cs x h1
end
open Go Go.RowKit Go.ChangeShapes Go.WideShapes Go.ChangeAt Go.WideElems L
theorem gN : Tryz.prog.globalNamed "facsimile/munch.none" = some 0 := by kernel_rfl
theorem tN : (Tryz.prog.globals[0]?).map (·.type) = some 182 := by kernel_rfl
theorem c64 : Tryz.prog.cellsOf 3 = 1 := by kernel_rfl
abbrev laidN : List (String × DataW Unit) := [("facsimile/munch.none", Rows.laid_facsimile_munch_none)]
theorem door_met (os : Os) (args : Array Value) : laidMetH Tryz.prog laidN ((World.doorLaid Tryz.prog 14 os).forCall (fun _ _ => 0) ⟨#[], args, []⟩).memory :=
  laidMetH_of_parts3 (fuel := 8) (laidMet_of_run' 8 (by kernel_rfl) (by kernel_rfl)) (by kernel_rfl) (by kernel_rfl)
set_option maxRecDepth 100000 in
theorem gw_laid {W : World} (h : laidMetH Tryz.prog laidN W) : L.GW W := by
  rw [MakeChecks.laidMetH_plain _ _ _ (by kernel_rfl)] at h
  obtain ⟨ps, ⟨g0, t0, cs0, f0, p0, q0, hg0, ht0, hv0, hd0, _, _⟩, _, _⟩ := h
  obtain rfl := wen (gN.symm.trans hg0)
  obtain rfl := wen (tN.symm.trans ht0)
  obtain ⟨xs, m1, _, hx1, hlen, hn2, hel⟩ := DataW.trod_array Tryz.underlying182 hd0
  have e0 := hel 0 (by decide)
  have e1 := hel 1 (by decide)
  have k0 := World.var?_cell hg0 hv0 0
  have k1 := World.var?_cell hg0 hv0 1
  match xs, hn2, hx1, e0, e1 with
  | [x0, x1], _, hx1, e0, e1 =>
    simp only [Rows.laid_facsimile_munch_none, DataW.agg.injEq, wcj, wdh, weo, and_true] at hx1
    obtain ⟨z0, a1, a2, _⟩ := DataW.trod_int Tryz.underlying3 (show DataW.trod _ Tryz.prog W 0 _ false m1 3 _ = some x0 from e0)
    obtain ⟨z1, b1, b2, _⟩ := DataW.trod_int Tryz.underlying3 (show DataW.trod _ Tryz.prog W 0 _ false m1 3 _ = some x1 from e1)
    rw [c64] at a1 b1
    subst a2; subst b2
    obtain ⟨hx, _⟩ := Prod.mk.inj hx1
    obtain ⟨rfl, rfl⟩ : z0 = -1 ∧ z1 = 0 := by
      cases hx
      exact ⟨rfl, rfl⟩
    obtain ⟨l⟩ := cs0
    match l, a1, b1 with
    | [], a1, _ => simp at a1
    | [_], _, b1 => simp at b1
    | c0 :: c1 :: r, a1, b1 =>
      simp at a1 b1
      subst a1; subst b1
      have k0 : W.cell? ⟨0, 0, none⟩ = some (.int .i64 (-1)) := by simpa using k0
      have k1 : W.cell? ⟨0, 1, none⟩ = some (.int .i64 0) := by simpa using k1
      intro x hx
      simp only [L.glT, wcb] at hx
      subst hx
      refine ⟨?_, fun k c hk => ?_⟩
      · unfold World.cell? at k0
        by_cases hlt : 0 < W.heap.size
        · exact hlt
        · simp [Array.getElem?_eq_none (by omega : W.heap.size ≤ 0)] at k0
      · match k, hk with
        | 0, hk => cases hk; exact k0
        | 1, hk => cases hk; exact k1
        | k + 2, hk => simp at hk
open Go Go.RowKit L
theorem ztn (w : World) : (callFunc 213 #[]).run Tryz.prog w = .ok (.value (.tuple #[])) w := run_call_mark0 Tryz.func213 (by kernel_rfl) (by kernel_rfl) (by kernel_rfl) .disable (by kernel_rfl) w
theorem zvw (w : World) : (callFunc 215 #[]).run Tryz.prog w = .ok (.value (.tuple #[])) w := run_call_mark0 Tryz.func215 (by kernel_rfl) (by kernel_rfl) (by kernel_rfl) .enable (by kernel_rfl) w
theorem z0p (a : Addr) (w : World) : (callFunc 216 #[.pointer (some a)]).run Tryz.prog w = .ok (.value (.tuple #[])) w := run_call_marked Tryz.func216 (by kernel_rfl) (by kernel_rfl) (by kernel_rfl) .acquire (by kernel_rfl) a w
theorem oMerge (a : Addr) (w : World) : (callFunc 218 #[.pointer (some a)]).run Tryz.prog w = .ok (.value (.tuple #[])) w := run_call_marked Tryz.func218 (by kernel_rfl) (by kernel_rfl) (by kernel_rfl) .releaseMerge (by kernel_rfl) a w
set_option maxRecDepth 100000 in
set_option maxHeartbeats 1600000 in
theorem oStore (a : Addr) (x : Value) (u : FrameMode) (w : World) (hc : w.cell? a = some x) (hz : w.frozen? a = false) :
    CallsD Tryz.prog 131 #[.pointer (some a), .bool true] u w fun e u' w' => u' = u ∧ (e = .returned (.tuple #[]) ∧ w' = w.drew.setCell a (.int .u32 1)) := by
  have hc' : w.drew.cell? a = some x := by go_simp
  have hz' : w.drew.frozen? a = false := by go_simp
  have hst := run_call_store (P := Tryz.prog) Tryz.func173 (by kernel_rfl) (by kernel_rfl) (by kernel_rfl) (by kernel_rfl) (k := .u32) (y := 1) hc' hz'
  go_enter_d Tryz.func131, Tryz.ntmps131
  go_wp2
  go_region_calls
  all_goals (go_end0; exact ⟨rfl, rfl⟩)
set_option maxRecDepth 100000 in
set_option maxHeartbeats 1600000 in
theorem z2w (a : Addr) (u : FrameMode) (w : World) (hc : w.cell? a = some (.int .i32 1)) (hz : w.frozen? a = false) :
    CallsD Tryz.prog 130 #[.pointer (some a)] u w fun e u' w' => u' = u ∧ (e = .returned (.tuple #[]) ∧ w' = w.setCell a (.int .i32 0)) := by
  have hd := ztn
  have he := zvw
  have hr := oMerge
  have hadd := run_call_add (P := Tryz.prog) Tryz.func219 (by kernel_rfl) (by kernel_rfl) (by kernel_rfl) .i32 (by kernel_rfl) (y := -1) (s := 0) hc hz (by simp [go_sem]; rfl)
  have hcv := run_convert_to_unsafe (P := Tryz.prog) (src := 271) (dst := 275) Tryz.underlying271 Tryz.underlying275 (by kernel_rfl) hc
  go_enter_d Tryz.func130, Tryz.ntmps130
  go_wp2
  go_end0
  go_wp2
  go_end0
  exact ⟨rfl, rfl⟩
set_option maxRecDepth 100000 in
set_option maxHeartbeats 1600000 in
theorem oLock (a : Addr) (w : World) (hc : w.cell? a = some (.int .i32 0)) (hz : w.frozen? a = false) :
    Calls Tryz.prog 129 #[.pointer (some a)] w fun e w' => e = .returned (.tuple #[]) ∧ w' = w.setCell a (.int .i32 1) := by
  have hd := ztn
  have he := zvw
  have ha := z0p
  have hcas := run_call_cas_hit (P := Tryz.prog) Tryz.func214 (by kernel_rfl) (by kernel_rfl) (by kernel_rfl) .i32 (by kernel_rfl) (y := 1) hc hz
  have hc' : (w.setCell a (.int .i32 1)).cell? a = some (.int .i32 1) := World.cell?_setCell_same w a _ hc
  have hcv := run_convert_to_unsafe (P := Tryz.prog) (src := 271) (dst := 275) Tryz.underlying271 Tryz.underlying275 (by kernel_rfl) hc'
  go_enter Tryz.func129, Tryz.ntmps129
  go_wp2
  first | go_end0 | (simp only [Exit.inBlock, Exit.then]; refine bodyPost_ret (results_none rfl _ _ _) rfl ?_) | refine bodyPost_ret (results_none rfl _ _ _) rfl ?_
  go_wp2
  go_end0
  exact ⟨rfl, rfl⟩
set_option maxRecDepth 100000 in
set_option maxHeartbeats 1600000 in
theorem oSlow {gb off : Nat} {g : FuncId} {va vb : Array Value} {w : World} {K : World → Prop} (h0 : w.cell? ⟨gb, off, none⟩ = some (.int .u32 0)) (h1 : w.cell? ⟨gb, off + 1, none⟩ = some (.int .i32 0)) (f0 : w.frozen? ⟨gb, off, none⟩ = false) (f1 : w.frozen? ⟨gb, off + 1, none⟩ = false)
    (he : ∀ w, (callFunc g (va ++ vb)).run Tryz.prog w = .ok (.enter g (va ++ vb)) w)
    (hc : Calls Tryz.prog g (va ++ vb) (w.setCell ⟨gb, off + 1, none⟩ (.int .i32 1)) fun e w' => (∃ v, e = .returned v) ∧ (∃ x, w'.cell? ⟨gb, off, none⟩ = some x) ∧ w'.cell? ⟨gb, off + 1, none⟩ = some (.int .i32 1) ∧ w'.frozen? ⟨gb, off, none⟩ = false ∧ w'.frozen? ⟨gb, off + 1, none⟩ = false ∧ K w') :
    Calls Tryz.prog 92 #[.pointer (some ⟨gb, off, none⟩), .func (.func g) va vb] w fun e w'' => e = .returned (.tuple #[]) ∧ ∃ w', K w' ∧ w'' = (w'.drew.setCell ⟨gb, off, none⟩ (.int .u32 1)).setCell ⟨gb, off + 1, none⟩ (.int .i32 0) := by
  have hl := run_call_load (P := Tryz.prog) Tryz.func128 (by kernel_rfl) (by kernel_rfl) (by kernel_rfl) .u32 (by kernel_rfl) (w := w.setCell ⟨gb, off + 1, none⟩ (.int .i32 1)) (a := ⟨gb, off, none⟩) (x := 0) ((World.cell?_setCell_other _ ⟨gb, off + 1, none⟩ ⟨gb, off, none⟩ _ (by simp)).trans h0)
  go_enter_defers Tryz.func92, Tryz.ntmps92
  go_wp2_with (go_at_call 129; refine (oLock ⟨gb, off + 1, none⟩ _ (by go_simp) (by go_simp)).mono ?_; rintro e w' ⟨rfl, rfl⟩)
  go_wp2
  refine hc.mono ?_
  rintro e w' ⟨⟨v, rfl⟩, ⟨x, hx⟩, hst, z0, z1, hK⟩
  simp only
  rename_i Q0 K0 hK0
  refine hK0 _ _ ?_
  go_wp2
  refine leaves_cons (f := 131) (args := #[.pointer (some ⟨gb, off, none⟩), .bool true]) (by simp) (by simp [go_sem]) ?_
  refine (oStore ⟨gb, off, none⟩ x .returning _ hx z0).mono ?_
  rintro e u' w'' ⟨rfl, rfl, rfl⟩
  refine leaves_cons (f := 130) (args := #[.pointer (some ⟨gb, off + 1, none⟩)]) (by simp [settle]) (by simp [go_sem]) ?_
  refine (z2w ⟨gb, off + 1, none⟩ _ _ ?_ (by simp [z1])).mono ?_
  · refine (World.cell?_setCell_other _ ⟨gb, off, none⟩ ⟨gb, off + 1, none⟩ _ (by simp)).trans ?_
    rw [World.cell?_drew]
    exact hst
  rintro e u' w'' ⟨rfl, rfl, rfl⟩
  simp [Leaves, settle, results, Tryz.results92]
  exact ⟨_, hK, rfl⟩
noncomputable def oc0 : Option FuncId := some 92
theorem oc0_ok : ∀ f, oc0 = some f → zlp Tryz.prog f := fun f h => by
  cases h
  exact ⟨by kernel_rfl, fun h0 h1 f0 f1 he hc => oSlow h0 h1 f0 f1 he hc⟩
noncomputable def z4x : List (Nat × AtK) := [
  (72, .ld .i64),
  (128, .ld .u32), (90, .add)]
noncomputable def atm0 : FuncId → Option AtK := lk z4x
theorem z3g : z2u Tryz.prog atm0 := fun f k h => by
  unfold atm0 z4x at h
  rcases Z2 h with ⟨rfl, rfl⟩ | h
  · exact fun a x w hc => run_call_load (P := Tryz.prog) Tryz.func72 (by kernel_rfl) (by kernel_rfl) (by kernel_rfl) .i64 (by kernel_rfl) hc
  rcases Z2 h with ⟨rfl, rfl⟩ | h
  · exact fun a x w hc => run_call_load (P := Tryz.prog) Tryz.func128 (by kernel_rfl) (by kernel_rfl) (by kernel_rfl) .u32 (by kernel_rfl) hc
  rcases Z2 h with ⟨rfl, rfl⟩ | h
  · exact fun a x y w hc hz => run_call_add (P := Tryz.prog) Tryz.func90 (by kernel_rfl) (by kernel_rfl) (by kernel_rfl) .i64 (by kernel_rfl) hc hz (by simp [go_sem]; rfl)
  · cases h
end
end Go.Proofs.YtiafpechgjopfaaGreatDoor.T
namespace Go.Proofs.YtiafpechgjopfaaGreatDoor.L
noncomputable section
open _root_.Go.Proofs.Tryz
set_option maxRecDepth 100000
set_option maxHeartbeats 8000000
set_option linter.unusedVariables false
set_option linter.unusedSimpArgs false
set_option linter.defProp false
open List (replicate range)
open Go Go.RowKit Go.Shelf
attribute [local go_sem] Oper.semAt_some
abbrev WD : Fence := Fence.wide
def Kp16 (m : Nat) (A B : World) : Prop := Below m A B ∧ ∀ (b : Nat) (arr : Array Value) (t : TypeId) (fr : Nat × Nat), t = 32 ∨ t = 9 ∨ t = 182 → A.heap[b]? = some (.cells arr t fr) → B.heap[b]? = some (.cells arr t fr)
abbrev zc8 : Type := Int × List UInt8 × Unit
def zvy (x : zc8) : Array Value := #[.agg #[.int .i64 x.1, .string ⟨⟨x.2.1⟩⟩]]
structure In16 (Z : ZM) (w : World) (dcs : List PV) (arr : Array Value) : Prop where
  gw : GW w
  zlt : ∀ b, Z b → b < w.heap.size
  zm : Z.m ≤ w.heap.size
  hd : RpL Z waa V0 w dcs arr.toList
  sz : asz Tryz.prog 32 = some (true, arr.size)
def zqw (dcs : List PV) (pN : List UInt8 → Int → Option (Int × Int)) : Prop := ∀ s a m, pN s a = some m → PCall Tryz.prog 99 [.agg dcs, .u (.string ⟨⟨s⟩⟩), .u (.int .i64 a)] (· = .agg [.u (.int .i64 m.1), .u (.int .i64 m.2)])
theorem zp0 {Z : ZM} {H : PHeap} {V : Nm → Value} {w : World} {p : PV} {v : Value} {ps : List PV} {vs : List Value} (h : Rp Z H V w p v) (hs : RpL Z H V w ps vs) : RpL Z H V w (p :: ps) (v :: vs) := ⟨by simp [hs.1], fun i a b h1 h2 => by
  cases i with
  | zero => simp at h1 h2; subst h1 h2; exact h
  | succ i => exact hs.2 i a b (by simpa using h1) (by simpa using h2)⟩
theorem rpl0 {Z : ZM} {H : PHeap} {V : Nm → Value} {w : World} : RpL Z H V w [] [] := ⟨rfl, fun i a b h => by simp at h⟩
theorem In16.next {Z : ZM} {w : World} {dcs : List PV} {arr : Array Value} {pN : List UInt8 → Int → Option (Int × Int)} (h : In16 Z w dcs arr) (hN : zqw dcs pN) {W : World} (hb : Below w.heap.size w W) {s : List UInt8} {a : Int} {m : Int × Int} (hm : pN s a = some m) (n : Nat) :
    CallsIn WD n Tryz.prog 99 #[.agg arr, .string ⟨⟨s⟩⟩, .int .i64 a] W fun e W' => e = .returned (.agg #[.int .i64 m.1, .int .i64 m.2]) ∧ Below W.heap.size W W' := by
  refine callsIn_wide.2 ?_
  have hd : Rp Z waa V0 W (.agg dcs) (.agg arr) := .agg _ _ (by have := h.hd.1; simpa using this) fun i p v h2 h3 => (h.hd.2 i p v h2 (by simpa using h3)).grow hb
  refine ((hN s a m hm) Z W [.agg arr, .string ⟨⟨s⟩⟩, .int .i64 a] (h.gw.below hb) (fun b hz => wd1 (h.zlt b hz) hb.size) (wdo h.zm hb.size) (zp0 hd (zp0 (.u _) (zp0 (.u _) rpl0)))).mono fun e W' ⟨v, p, he, hp, _, hv, hb2⟩ => ⟨?_, hb2⟩
  subst he; subst hp
  cases hv with
  | agg _ vs hs hh =>
    obtain ⟨l⟩ := vs
    match l, hs, hh with
    | [x, y], _, hh =>
      have h0 := hh 0 _ x rfl rfl
      have h1 := hh 1 _ y rfl rfl
      cases h0
      cases h1
      rfl
theorem zbc {F : Fence} {n : Nat} {P : Program} {o : Oper} {a : Act} {w w' : World} {v : Value} {K : Act → World → Prop} {Q : Exit → Act → World → Prop} (hF : ∀ f, F.fn f) (hd : ∀ c, o.op ≠ .defer c) (he : (execOp a.eval o).run P w = .ok (.value v) w') (h : K (a.put o.dst v) w') : o.wpIn F n P a w K Q :=
  ⟨fun f _ => hF f, by rw [Oper.semAt_eq _ _ _ hd, he]; exact h⟩
def z0q (s : List UInt8) (a u : Int) : Option (List UInt8) := if 0 ≤ a ∧ a ≤ u ∧ u ≤ (s.length : Int) then some ((s.take u.toNat).drop a.toNat) else none
def zk3 (pN : List UInt8 → Int → Option (Int × Int)) (s : List UInt8) : Nat → Int → List zc8 → Option (List zc8)
  | 0, _, _ => none
  | k + 1, a, l => if a < (s.length : Int) then match pN s a with
    | none => none
    | some m => match z0q s a m.2 with
      | none => none
      | some x => if l.length + 1 ≤ maxLen ∧ (l.length + 1) * 24 ≤ 140737488355328 then zk3 pN s k m.2 (l ++ [(m.1, x, ())]) else none
    else some l
theorem zrp {pN : List UInt8 → Int → Option (Int × Int)} {s : List UInt8} : ∀ {k : Nat} {a : Int} {l r : List zc8}, zk3 pN s k a l = some r → l.length ≤ r.length
  | 0, _, _, _, h => by cases h
  | k + 1, a, l, r, h => by
    unfold zk3 at h
    split at h
    · split at h <;> try (cases h; done)
      split at h <;> try (cases h; done)
      split at h <;> try (cases h; done)
      have := zrp h
      simp at this
      omega
    · cases h; exact wb7 _
theorem z17 {s x : List UInt8} {a u : Int} (h : z0q s a u = some x) (W : World) : (Instr.slice 9 (.string ⟨⟨s⟩⟩) (some (.int .i64 a)) (some (.int .i64 u)) none).run Tryz.prog W = .ok (.string ⟨⟨x⟩⟩) W := by
  unfold z0q at h
  split at h <;> cases h
  rename_i hh
  rw [run_slice_string_if (h := Tryz.underlying9)]
  rw [if_pos ⟨by omega, hh.2.2⟩, if_pos ⟨hh.1, hh.2.1⟩]
  have e : (⟨⟨s⟩⟩ : ByteArray).extract a.toNat u.toNat = ⟨⟨(s.take u.toNat).drop a.toNat⟩⟩ := by
    apply ByteArray.ext
    rw [ByteArray.data_extract]
    simp [List.extract_eq_take_drop, List.drop_take]
  rw [e]
inductive YF (A B : Prop) : Bool → Prop
  | t (h : A) : YF A B true
  | f (h : B) : YF A B false
theorem zvj {e : Ending} {A B : Prop} (h : (e = .returned (.bool true) ∧ A) ∨ (e = .returned (.bool false) ∧ B)) : ∃ b, e = .returned (.bool b) ∧ YF A B b := by
  rcases h with ⟨h, a⟩ | ⟨h, a⟩
  · exact ⟨true, h, .t a⟩
  · exact ⟨false, h, .f a⟩
theorem zbg {W : World} {B2 k : Nat} {arr : Array Value} (hz : asz Tryz.prog 32 = some (true, k)) (hk : arr.size = k) (h : W.heap[B2]? = some (.cells arr 32)) {a : Act} {d pos ty af g} (ha : a.eval (.tmp 2) = .pointer (some ⟨B2, 0, none⟩)) : (execOp a.eval ⟨d, .load 32 (.tmp 2), pos, ty, af, g⟩).run Tryz.prog W = .ok (.value (.agg arr)) W := by
  unfold execOp
  simp only []
  rw [ha]
  simp [Instr.loadAt, Instr.sureAddr]
  obtain ⟨u, hu, hp⟩ := zdn (P := Tryz.prog) (W := z1s) (H := waa) (V := V0) (w := W) (b := B2) (o := 0) hz (cs := arr.toList.map PV.u) (fun i p hi => by
    obtain ⟨c, hc, rfl⟩ : ∃ c, arr[i]? = some c ∧ PV.u c = p := by simpa using hi
    exact ⟨c, by simp [World.cell?, h, hc], .u c⟩) (q := .agg (arr.toList.map PV.u)) (by
      unfold zi
      rw [if_pos rfl, if_pos (by simp; omega), wdr (by simp; omega)])
  rw [hu]
  simp only [Result.andThen_ok]
  cases hp with
  | agg _ vs hs hh =>
    have : vs = arr := by
      refine Array.ext (by simpa using hs.symm) fun i h1 h2 => ?_
      have := hh i (.u arr[i]) vs[i] (by simp [h2]) (by simp [h1])
      generalize vs[i] = q at this ⊢
      cases this
      rfl
    rw [this]
set_option maxRecDepth 100000 in
set_option maxHeartbeats 2000000 in
theorem zw4 {Z : ZM} {w : World} {dcs : List PV} {arr : Array Value} {pN : List UInt8 → Int → Option (Int × Int)} (h : In16 Z w dcs arr) (hN : zqw dcs pN) {s : List UInt8} {nn : Nat} {r : List zc8} (hr : zk3 pN s nn 0 [] = some r) (l B2 B3 : Nat) (J Jx : List zc8 → World → Prop) (W : World)
    (hJ : AbidesFrom W.heap.size J) (hY : ∀ pre x W1, J pre W1 → pre.length < r.length → YieldAt WD 8 Tryz.prog l (zvy x) W1 fun e W' => (e = .returned (.bool true) ∧ J (pre ++ [x]) W' ∧ Kp16 w.heap.size W1 W') ∨ (e = .returned (.bool false) ∧ Jx (pre ++ [x]) W'))
    (hb : Below w.heap.size w W) (b2 : W.heap[B2]? = some (.cells arr 32)) (b3 : W.heap[B3]? = some (.cells #[.string ⟨⟨s⟩⟩] 9)) (h0 : J [] W) :
    CallsIn WD 9 Tryz.prog 98 #[.func (.yield l) #[] #[], .pointer (some ⟨B3, 0, none⟩), .pointer (some ⟨B2, 0, none⟩)] W fun e W' => (∃ v, e = .returned v) ∧ ((∃ ys, ys = r ∧ J ys W') ∨ (∃ pre, True ∧ Jx pre W')) := by
  refine callsIn_of_wp Tryz.func98 rfl trivial ?_ rfl
  simp only [Tryz.ntmps98, wef, wc1, wdj, Nat.reduceAdd, Nat.reduceSub, Array.replicate_succ, Array.replicate_zero, List.push_toArray, List.append_toArray, wc2, wd8]
  gi_wp2
  gi_loopg [4] nn (fun k p wr => ∃ (a : Int) (pre : List zc8), p = .int .i64 a ∧ zk3 pN s k a pre = some r ∧ J pre wr ∧ Below w.heap.size w wr ∧ wr.heap[B2]? = some (.cells arr 32) ∧ wr.heap[B3]? = some (.cells #[.string ⟨⟨s⟩⟩] 9))
  case atStart => exact ⟨0, [], rfl, hr, h0, hb, b2, b3⟩
  case round =>
    obtain ⟨a, pre, rfl, hk, hj, hbW, c2, c3⟩ := hrel
    have e3 : wr.cell? ⟨B3, 0, none⟩ = some (.string ⟨⟨s⟩⟩) := by simp [World.cell?, c3]
    match gk, hk with
    | 0, hk => cases hk
    | k + 1, hk =>
    unfold zk3 at hk
    by_cases hlt : a < (s.length : Int)
    · rw [if_pos hlt] at hk
      split at hk <;> try (cases hk; done)
      rename_i m hm
      split at hk <;> try (cases hk; done)
      rename_i x hx
      split at hk <;> try (cases hk; done)
      rename_i hle
      gi_wp2_with (first | (refine zbc (v := .agg arr) (fun _ => trivial) (fun c => by simp) (zbg h.sz rfl c2 rfl) ?_; simp only [Act.put]) | (refine ⟨trivial, ?_⟩; gi_at_call 99; refine (h.next hN hbW hm _).mono ?_; rintro e w1 ⟨rfl, hb1⟩))
      have hsz1 := hb1.size
      obtain ⟨W3, hW3⟩ : ∃ W3, w1.alloc (.cells #[.int .i64 m.1, .int .i64 m.2] 182) = W3 := ⟨_, rfl⟩
      have hb3 : Below wr.heap.size wr W3 := by rw [← hW3]; exact hb1.alloc hsz1 _
      have c5 : W3.heap[w1.heap.size]? = some (.cells #[.int .i64 m.1, .int .i64 m.2] 182) := by rw [← hW3]; exact World.alloc_heap_new w1 _
      rw [hW3]
      generalize w1.heap.size = B5 at c5 ⊢
      replace c2 := (hb3.block B2 (wcg.1 c2).1).trans c2
      replace c3 := (hb3.block B3 (wcg.1 c3).1).trans c3
      replace hj : J pre W3 := hJ _ _ _ none hj ⟨hb3.os, hb3.tape, hb3.output, hb3.size, fun i hi _ => hb3.block i hi⟩ (fun r e => by cases e)
      replace hbW := hbW.trans (hb3.mono hbW.size)
      clear hb1 hsz1 hW3 hb3 e3
      have e3 : W3.cell? ⟨B3, 0, none⟩ = some (.string ⟨⟨s⟩⟩) := by simp [World.cell?, c3]
      have e5 : W3.cell? ⟨B5, 0, none⟩ = some (.int .i64 m.1) := by simp [World.cell?, c5]
      have e6 : W3.cell? ⟨B5, 1, none⟩ = some (.int .i64 m.2) := by simp [World.cell?, c5]
      have hlen : pre.length < r.length := by have := zrp hk; simp at this; omega
      obtain ⟨fn, tmps, assign, body, hy, hR⟩ := hY pre (m.1, x, ()) W3.drew (hJ _ _ _ none hj ⟨rfl, rfl, rfl, wb7 _, fun i hi _ => rfl⟩ (fun r e => by cases e)) hlen
      have hmix : Tryz.prog.follows .mixedOrders = true := by kernel_rfl
      have hsl := z17 hx
      dsimp only [zvy] at hy
      gi_region_with_o (refine hR.mono ?_; rintro e W4 hpost; obtain ⟨bb, rfl, hyf⟩ := zvj hpost; clear hpost)
      all_goals
        rcases hyf with ⟨⟨hj4, hk4⟩⟩ | ⟨hjx⟩
        · replace c2 := hk4.2 _ _ _ _ (.inl rfl) c2
          replace c3 := hk4.2 _ _ _ _ (.inr (.inl rfl)) c3
          have c5 := hk4.2 _ _ _ _ (.inr (.inr rfl)) c5
          have e6 : W4.cell? ⟨B5, 1, none⟩ = some (.int .i64 m.2) := by simp [World.cell?, c5]
          have hbW := (hbW.trans (show Below w.heap.size W3 W3.drew from ⟨rfl, rfl, rfl, wb7 _, fun _ _ => rfl⟩)).trans hk4.1
          gi_wp2
          gi_roundg k
          case measure => exact Nat.lt_succ_self k
          case rel => exact ⟨m.2, _, rfl, hk, hj4, hbW, c2, c3⟩
        · gi_wp2
          refine bodyPost_ret (results_none rfl _ _ _) rfl ?_
          exact ⟨⟨_, rfl⟩, .inr ⟨_, trivial, hjx⟩⟩
    · rw [if_neg hlt] at hk
      cases hk
      have hlt : (s.length : Int) ≤ a := by omega
      gi_wp2
      go_end0
      exact ⟨⟨_, rfl⟩, .inl hj⟩
attribute [local go_sem] Oper.semAt_some
theorem In16.right {Z : ZM} {w : World} {dcs : List PV} {arr : Array Value} (h : In16 Z w dcs arr) {bR : Bool} (hR : PCall Tryz.prog 61 [.agg dcs] (· = .u (.bool bR))) {W : World} (hb : Below w.heap.size w W) (n : Nat) :
    CallsIn WD n Tryz.prog 61 #[.agg arr] W fun e W' => e = .returned (.bool bR) ∧ Below W.heap.size W W' := by
  refine callsIn_wide.2 ?_
  have hd : Rp Z waa V0 W (.agg dcs) (.agg arr) := .agg _ _ (by have := h.hd.1; simpa using this) fun i p v h2 h3 => (h.hd.2 i p v h2 (by simpa using h3)).grow hb
  refine (hR Z W [.agg arr] (h.gw.below hb) (fun b hz => wd1 (h.zlt b hz) hb.size) (wdo h.zm hb.size) (zp0 hd rpl0)).mono fun e W' ⟨v, p, he, hp, _, hv, hb2⟩ => ⟨?_, hb2⟩
  subst he; subst hp
  cases hv
  rfl
def Z0 (x : zc8) : List Value := [.int .i64 x.1, .string ⟨⟨x.2.1⟩⟩]
theorem infoPc : (Tryz.prog.info? 58).map (fun i => (i.zero, i.size, i.bytes)) = some (some (.agg #[.int .i64 0, .string ⟨⟨[]⟩⟩]), 2, 24) := by kernel_rfl
set_option maxHeartbeats 1000000 in
theorem zyc (n : Nat) (arr : Array Value) (v : ByteArray) (W : World) : CallsIn WD n Tryz.prog 62 #[.agg arr, .string v] W fun e W' => e = .returned (.func (.func 98) #[] #[.pointer (some ⟨W.heap.size + 1, 0, none⟩), .pointer (some ⟨W.heap.size, 0, none⟩)]) ∧ W' = (W.alloc (.cells arr 32)).alloc (.cells #[.string v] 9) := by
  refine callsIn_of_wp Tryz.func62 rfl trivial ?_ rfl
  simp only [Tryz.ntmps62, wef, wc1, wdj, Nat.reduceAdd, Nat.reduceSub, Array.replicate_succ, Array.replicate_zero, List.push_toArray, List.append_toArray, wc2, wd8]
  gi_wp2
  go_ret
  exact ⟨rfl, rfl⟩
theorem Kp16.trans {m : Nat} {A B C : World} (h : Kp16 m A B) (k : Kp16 m B C) : Kp16 m A C := ⟨h.1.trans k.1, fun b arr t fr ht hb => k.2 b arr t fr ht (h.2 b arr t fr ht hb)⟩
theorem Kp16.put {m : Nat} {w : World} (hm : m ≤ w.heap.size) (W : World) (l : Nat) (o o' : Obj) (hl : w.heap.size ≤ l) (h : W.heap[l]? = some o) (hc : o.isCells = false) (hw : o.isWalk = false) : Kp16 m W (W.putObj l o') :=
  ⟨belowK_b (w := w) hm W l o o' hl h hc hw, fun b arr t fr _ hb => (World.putObj_heap_other (fun e => by subst e; rw [h] at hb; cases hb; cases hc)).trans hb⟩
theorem Kp16.alloc {m : Nat} {W : World} (hm : m ≤ W.heap.size) (o : Obj) : Kp16 m W (W.alloc o) := ⟨(Below.refl m W).alloc hm o, fun b arr t fr _ hb => (Below.heap_alloc W o b (wcg.1 hb).1).trans hb⟩
theorem wb0 {m B k : Nat} {W w1 : World} {tmp : Obj} {v v' : Value} {xs : List Value} (hm : Below m W (w1.setCell ⟨B, 0, none⟩ v')) (hv : Boxed W B 36 v) (hrow : W.ownsRow m 58 2 v k xs) (hgrow : (W.alloc tmp).grownBy w1 v.ownBlock) : Kp16 m W (w1.setCell ⟨B, 0, none⟩ v') := by
  refine ⟨hm, fun b arr t fr ht hb => ?_⟩
  have hlt := (wcg.1 hb).1
  have h1 : w1.heap[b]? = some (.cells arr t fr) := by
    refine (hgrow.block b (by simp; omega) fun e => ?_).trans ((Below.heap_alloc W tmp b hlt).trans hb)
    rcases hrow.2 with ⟨e2, _⟩ | ⟨g, cap, cur, e2, _, hg, _⟩
    · rw [e2] at e; cases e
    · rw [e2] at e
      have e : b = g := wen e
      subst e
      rw [hb] at hg
      cases hg
      rcases ht with h | h | h <;> cases h
  have hne : b ≠ B := fun e => by
    subst e
    have h2 := hv
    unfold Boxed at h2
    rw [hb] at h2
    cases h2
    rcases ht with h | h | h <;> cases h
  exact ((grownBy_setCell' w1 B v').block b (wcg.1 h1).1 (fun e => hne (wen e).symm.symm)).trans h1
theorem znw (w : World) (x y : Value) (t : TypeId) : ∀ j u, [x, y][j]? = some u → (w.alloc (.cells #[x, y] t)).cell? ((⟨w.heap.size, 0, none⟩ : Addr).add j) = some u := fun j u hj => by
  have hh := World.alloc_heap_new w (.cells #[x, y] t)
  match j, hj with
  | 0, hj => cases hj; rw [yf]; simp only [World.cell?]; rw [hh]; rfl
  | 1, hj => cases hj; rw [yf]; simp only [World.cell?]; rw [hh]; rfl
  | j + 2, hj => simp at hj
theorem zs0 {pN : List UInt8 → Int → Option (Int × Int)} {s : List UInt8} : ∀ {k : Nat} {a : Int} {l r : List zc8}, zk3 pN s k a l = some r → l.length * 24 ≤ 140737488355328 → l.length ≤ maxLen → r.length * 24 ≤ 140737488355328 ∧ r.length ≤ maxLen
  | 0, _, _, _, h, _, _ => by cases h
  | k + 1, a, l, r, h, h1, h2 => by
    unfold zk3 at h
    split at h
    · split at h <;> try (cases h; done)
      split at h <;> try (cases h; done)
      split at h <;> try (cases h; done)
      rename_i hh
      exact zs0 h (by simpa using hh.2) (by simpa using hh.1)
    · cases h; exact ⟨h1, h2⟩
set_option maxRecDepth 100000 in
set_option maxHeartbeats 2000000 in
theorem cut_in {Z : ZM} {w : World} {dcs : List PV} {arr : Array Value} {pN : List UInt8 → Int → Option (Int × Int)} (h : In16 Z w dcs arr) (hN : zqw dcs pN) (hR : PCall Tryz.prog 61 [.agg dcs] (· = .u (.bool true))) {s : List UInt8} {nn : Nat} {r : List zc8} (hr : zk3 pN s nn 0 [] = some r) :
    CallsIn WD 10 Tryz.prog 38 #[.agg arr, .string ⟨⟨s⟩⟩] w fun e W' => ∃ v, e = .returned v ∧ W'.ownsRow w.heap.size 58 2 v r.length (r.flatMap Z0) ∧ Below w.heap.size w W' := by
  obtain ⟨i0, hi, hz0, hz1, hz2⟩ := info_parts infoPc
  refine callsIn_of_wp_marks Tryz.func38 rfl trivial ?_ rfl
  simp only [Tryz.ntmps38, wef, wc1, wdj, Nat.reduceAdd, Nat.reduceSub, Array.replicate_succ, Array.replicate_zero, List.push_toArray, List.append_toArray, wc2, wd8]
  have c2 : (w.alloc (.cells arr 32)).heap[w.heap.size]? = some (.cells arr 32) := World.alloc_heap_new w _
  have hb0 : Below w.heap.size w (w.alloc (.cells arr 32)) := (Below.refl _ w).alloc (wb7 _) _
  gi_wp2_with (first | (refine zbc (v := .agg arr) (fun _ => trivial) (fun c => by simp) (zbg h.sz rfl c2 rfl) ?_; simp only [Act.put]) | (refine ⟨trivial, ?_⟩; gi_at_call 61; refine (h.right hR hb0 _).mono ?_; rintro e w1 ⟨rfl, hb1⟩))
  have hs1 : w.heap.size < w1.heap.size := by have := hb1.size; simp at this; omega
  have c2' : w1.heap[w.heap.size]? = some (.cells arr 32) := (hb1.block _ (by simp)).trans c2
  have hbw : Below w.heap.size w w1 := hb0.trans (hb1.mono hb0.size)
  have bO := Boxed.new w1 36 (.slice none 0 0)
  have hb3 : Below w.heap.size w (w1.alloc (.cells #[.slice none 0 0] 36)) := hbw.alloc (by omega) _
  have c3 : (w1.alloc (.cells #[.slice none 0 0] 36)).heap[w.heap.size]? = some (.cells arr 32) := (Below.heap_alloc w1 _ _ hs1).trans c2'
  have hOB : (w1.alloc (.cells #[.slice none 0 0] 36)).heap.size = w1.heap.size + 1 := World.size_alloc ..
  generalize w1.alloc (.cells #[.slice none 0 0] 36) = W3 at bO hb3 c3 hOB ⊢
  generalize w1.heap.size = BO at bO hs1 hOB ⊢
  clear hb1 c2' hbw
  refine zbc (v := .agg arr) (fun _ => trivial) (fun c => by simp) (zbg h.sz rfl c3 rfl) ?_
  simp only [Act.put]
  gi_wp2_with (first |  (refine ⟨trivial, ?_⟩; gi_at_call 62; refine (zyc _ _ _ _).mono ?_; rintro e w4 ⟨rfl, hw4⟩))
  have hb4 : Below w.heap.size w ((W3.alloc (.cells arr 32)).alloc (.cells #[.string ⟨⟨s⟩⟩] 9)) := (hb3.alloc (by omega) _).alloc (by simp; omega) _
  have bO4 := (bO.alloc (.cells arr 32)).alloc (.cells #[.string ⟨⟨s⟩⟩] 9)
  have d2 : ((W3.alloc (.cells arr 32)).alloc (.cells #[.string ⟨⟨s⟩⟩] 9)).heap[BO + 1]? = some (.cells arr 32) := (Below.heap_alloc _ _ _ (by simp; omega)).trans (by rw [← hOB]; exact World.alloc_heap_new _ _)
  have d3 : ((W3.alloc (.cells arr 32)).alloc (.cells #[.string ⟨⟨s⟩⟩] 9)).heap[BO + 1 + 1]? = some (.cells #[.string ⟨⟨s⟩⟩] 9) := by
    have := World.alloc_heap_new (W3.alloc (.cells arr 32)) (.cells #[.string ⟨⟨s⟩⟩] 9)
    rw [World.size_alloc, hOB] at this
    exact this
  have hsz4 : ((W3.alloc (.cells arr 32)).alloc (.cells #[.string ⟨⟨s⟩⟩] 9)).heap.size = BO + 3 := by simp; omega
  generalize (W3.alloc (.cells arr 32)).alloc (.cells #[.string ⟨⟨s⟩⟩] 9) = W5 at hb4 bO4 d2 d3 hsz4 ⊢
  clear bO hb3 c3 hOB
  have hrl : r.length * 24 ≤ 140737488355328 ∧ r.length ≤ maxLen := zs0 hr (by simp) (by simp)
  refine wpIn_rangeFunc_ownH (α := zc8) rfl (by decide) (gf := 98) (lb := #[.pointer (some ⟨BO + 1 + 1, 0, none⟩), .pointer (some ⟨BO + 1, 0, none⟩)]) rfl trivial (enters_of Tryz.func98 (by kernel_rfl) rfl)
    (w0 := W5) (encs := zvy) (Kp := Kp16 w.heap.size) (S := fun ys => ys = r) (Sp := fun _ => True) (N := r.length)
    (fun l J Jx W hW hJ hJx hY h0 => zw4 h hN hr l (BO + 1) (BO + 1 + 1) J Jx W hJ hY (hb4.trans (hW.mono hb4.size)) ((hW.block _ (by omega)).trans d2) ((hW.block _ (by omega)).trans d3) h0)
    Kp16.trans (Kp16.put hb4.size) (Below.refl _ _) (fun _ => rfl)
    (fun pre W => (∃ v, Boxed W BO 36 v ∧ W.ownsRow w.heap.size 58 2 v pre.length (pre.flatMap Z0) ∧ True) ∧ Below w.heap.size w W)
    (fun _ _ _ => False)
    (OwnFrom.and (Own.from (holdsRow_own w.heap.size BO 36 58 2 (fun pre : List zc8 => pre.length) (fun pre => pre.flatMap Z0) (fun _ _ => True)) _) (ownFrom_below (wb7 _) hb4.size))
    (fun _ _ _ _ _ hs _ _ => hs)
    ⟨⟨_, bO4, World.ownsRow_nil _ _ _ _, trivial⟩, hb4⟩
    (fun x a' W => ∃ Bx, W.heap[Bx]? = some (.cells #[.int .i64 x.1, .string ⟨⟨x.2.1⟩⟩] 58) ∧ a' = { tmps := #[.agg arr, .string ⟨⟨s⟩⟩, .pointer (some ⟨w.heap.size, 0, none⟩), undef, .slice none 0 0, .pointer (some ⟨BO, 0, none⟩), .pointer (some ⟨Bx, 0, none⟩), .agg arr, .bool true, .bool false, .agg arr, .string ⟨⟨s⟩⟩, .func (.func 98) #[] #[.pointer (some ⟨BO + 1 + 1, 0, none⟩), .pointer (some ⟨BO + 1, 0, none⟩)], .agg #[.int .i64 x.1, .string ⟨⟨x.2.1⟩⟩], undef, undef, undef, undef, undef], defers := [] })
    (fun x a' s W W' row hs hg hr => by
      obtain ⟨Bx, hx, ha⟩ := hs
      exact ⟨Bx, (hg.block Bx (wcg.1 hx).1 (fun e => by obtain ⟨_, o, ho, hc⟩ := hr Bx e.symm; rw [hx] at ho; cases ho; cases hc)).trans hx, ha⟩)
    ?assign ?body ?done ?stop
  case assign =>
    rintro l pre x W K ⟨⟨v, hv, hrow, _⟩, hB⟩ hK
    dsimp only [zvy]
    gi_wp2
    have hsW := hB.size
    refine hK _ _ ((KeepsOthers.alloc _ _).from _) (Kp16.alloc hsW _) ⟨⟨v, hv.alloc _, hrow.alloc _, trivial⟩, hB.alloc hsW _⟩ ⟨W.heap.size, World.alloc_heap_new W _, rfl⟩
  case body =>
    rintro l pre x a' W hl ⟨rl, hrl2⟩ ⟨⟨v, hv, hrow, _⟩, hB⟩ ⟨Bx, bX, rfl⟩ hlt
    have hc := hv.cell
    have f1 : W.cell? ⟨Bx, 0, none⟩ = some (.int .i64 x.1) := by simp [World.cell?, bX]
    have f2 : W.cell? ⟨Bx, 1, none⟩ = some (.string ⟨⟨x.2.1⟩⟩) := by simp [World.cell?, bX]
    gi_wp2_with (gi_at_builtin; refine wpListIn_append_own _ rfl _ _ 36 rfl w.heap.size 58 i0 (.agg #[.int .i64 0, .string ⟨⟨[]⟩⟩]) 2 24 Tryz.underlying36 hi hz0 hz1 hz2 rfl (by decide) _ _ _ rfl (hrow.alloc _) ⟨W.heap.size, 0, none⟩ 1 1 (Z0 x) rfl rfl (znw _ _ _ _) (by simp [Z0, Value.oneCell']) (by omega) (by omega) (by have := hB.size; simp; omega) ?_; intro v' w1 hown' hgrow _; obtain ⟨g', cap', rfl⟩ := ownsRow_succ hown'; obtain ⟨hv1, hv2, hr2, hk2, hb2⟩ := hv.appended (by decide) hrow hB.size (Nat.le_of_lt hs1) hown' hgrow; have hc1 := hv1.cell; have hf1 := hv1.frozen)
    exact ⟨hk2.from _, wb0 hb2 hv hrow hgrow, ⟨_, hv2, by simpa [wdc] using hr2, trivial⟩, hB.trans hb2⟩
  case done =>
    rintro D ys W hD rfl ⟨⟨v, hv, hrow, _⟩, hB⟩ hK
    have hc := hv.cell
    gi_wp2
    refine ⟨by simp, .inl ⟨_, _, rfl, run_takeDeferred hK, ?_⟩⟩
    exact ⟨_, results_tmp rfl _ _ _, v, rfl, ownsRow_putObj hrow _ hK rfl, hB.trans (belowK_b (w := w) (wb7 _) W D _ _ (by have := hb4.size; omega) hK rfl rfl)⟩
  case stop =>
    rintro D c pre W _ _ h _
    exact h.elim
set_option maxRecDepth 100000 in
set_option maxHeartbeats 1000000 in
theorem cut_no {Z : ZM} {w : World} {dcs : List PV} {arr : Array Value} (h : In16 Z w dcs arr) (hR : PCall Tryz.prog 61 [.agg dcs] (· = .u (.bool false))) (s : List UInt8) :
    CallsIn WD 10 Tryz.prog 38 #[.agg arr, .string ⟨⟨s⟩⟩] w fun e W' => e = .returned (.slice none 0 0) ∧ Below w.heap.size w W' := by
  refine callsIn_of_wp Tryz.func38 rfl trivial ?_ rfl
  simp only [Tryz.ntmps38, wef, wc1, wdj, Nat.reduceAdd, Nat.reduceSub, Array.replicate_succ, Array.replicate_zero, List.push_toArray, List.append_toArray, wc2, wd8]
  have c2 : (w.alloc (.cells arr 32)).heap[w.heap.size]? = some (.cells arr 32) := World.alloc_heap_new w _
  have hb0 : Below w.heap.size w (w.alloc (.cells arr 32)) := (Below.refl _ w).alloc (wb7 _) _
  gi_wp2_with (first | (refine zbc (v := .agg arr) (fun _ => trivial) (fun c => by simp) (zbg h.sz rfl c2 rfl) ?_; simp only [Act.put]) | (refine ⟨trivial, ?_⟩; gi_at_call 61; refine (h.right hR hb0 _).mono ?_; rintro e w1 ⟨rfl, hb1⟩))
  go_ret
  exact ⟨rfl, hb0.trans (hb1.mono hb0.size)⟩
end
end Go.Proofs.YtiafpechgjopfaaGreatDoor.L
namespace Go.Proofs.YtiafpechgjopfaaGreatDoor.T
noncomputable section
open _root_.Go.Proofs.Tryz
set_option maxRecDepth 100000
set_option maxHeartbeats 8000000
set_option linter.unusedVariables false
set_option linter.unusedSimpArgs false
set_option linter.defProp false
open List (replicate range)
open Go Go.RowKit L
section
variable {yd : Ty} (pR : yd.D → Option Bool) (pN : yd.D → List UInt8 → Int → Option (Arr 2 Int))
noncomputable def cutP (nn : Nat) (d : yd.D) (s : List UInt8) : Option (List zc8) := ja (pR d) fun b => ifB b (jr (σ := Int × List zc8) (fun (a, l) j =>
  ifB (decide (a < (s.length : Int))) (ja (pN d s a) fun m => ja (atL m.l 0) fun t => ja (atL m.l 1) fun u => ja (zh8 s (some a) (some u)) fun x => ja (apO 24 l [(t, x, ())]) fun y => j (u, y)) (some l)) nn (0, [])) (some [])
abbrev yPc : Ty := .st (.cons (.int .i64) (.cons .str .nil))
variable {pR} {pN}
theorem z12 {s x : List UInt8} {a u : Int} (h : zh8 s (some a) (some u) = some x) : z0q s a u = some x := by
  unfold zh8 bdN at h
  simp only at h
  unfold z0q
  cases h1 : decide (0 ≤ a) <;> simp only [h1] at h <;> try (cases h; done)
  cases h2 : decide (0 ≤ u) <;> simp only [h2] at h <;> try (cases h; done)
  have h1 := wc8 h1
  have h2 := wc8 h2
  split at h <;> cases h
  rename_i h3
  simp only [wb6, wc9] at h3
  rw [if_pos ⟨h1, by omega, by omega⟩]
theorem zn4 {d : yd.D} {s : List UInt8} : ∀ {k : Nat} {a : Int} {l r : List zc8}, jr (σ := Int × List zc8) (fun (a, l) j =>
  ifB (decide (a < (s.length : Int))) (ja (pN d s a) fun m => ja (atL m.l 0) fun t => ja (atL m.l 1) fun u => ja (zh8 s (some a) (some u)) fun x => ja (apO 24 l [(t, x, ())]) fun y => j (u, y)) (some l)) k (a, l) = some r → zk3 (fun s a => (pN d s a).map fun m => (m.l.getD 0 0, m.l.getD 1 0)) s k a l = some r
  | 0, _, _, _, h => by cases h
  | k + 1, a, l, r, h => by
    simp only [jr] at h
    unfold zk3
    by_cases hlt : a < (s.length : Int)
    · rw [decide_eq_true hlt] at h
      obtain ⟨m, hm, g1⟩ := qg h
      obtain ⟨t, ht, g2⟩ := qg g1
      obtain ⟨u, hu, g3⟩ := qg g2
      obtain ⟨x, hx, g4⟩ := qg g3
      obtain ⟨y, hy, g5⟩ := qg g4
      obtain ⟨h1, h2, rfl⟩ := Vb hy
      obtain ⟨ml, hl⟩ := m
      match ml, hl, hm, ht, hu with
      | [p, q], hl, hm, ht, hu =>
        cases ht
        cases hu
        rw [if_pos hlt, hm]
        simp only [wcd]
        rw [show ([t, u] : List Int).getD 0 0 = t from rfl, show ([t, u] : List Int).getD 1 0 = u from rfl, z12 hx]
        simp only
        rw [if_pos ⟨by simpa using h1, by simpa using h2⟩]
        exact zn4 g5
    · rw [decide_eq_false hlt] at h
      rw [if_neg hlt]
      exact h
theorem zr2 : ∀ r : List zc8, (r.map (enc yPc)).flatMap PV.cells = (r.flatMap Z0).map PV.u
  | [] => rfl
  | x :: r => by rw [wcj, wci, wci, wdu, zr2 r]; rfl
theorem cut_ok (hy : zq yd = true) (hz : asz Tryz.prog 32 = some (true, wid yd)) (hR : qk 61 ⟨[yd], .bool, pR⟩) (hN : qk 99 ⟨[yd, .str, .int .i64], .arr 2 (.int .i64), fun t => pN t.1 t.2.1 t.2.2⟩) (nn : Nat) : FFOk 38 ⟨[yd, .str], 58, yPc, fun t => cutP pR pN nn t.1 t.2⟩ := by
  have he : ∀ d : yd.D, enc yd d = .agg (je yd d) := fun d => by
    cases yd <;> first | rfl | simp [zq] at hy
  refine ⟨by kernel_rfl, fun t r hr Z w vs hgw hzl hzm hv => ?_⟩
  obtain ⟨d, s⟩ := t
  obtain ⟨hvl, hvr⟩ := hv
  have hvl : 2 = vs.length := hvl
  match vs, hvl, hvr with
  | [vd, vs], _, hvr =>
    have h0 : Rp Z waa V0 w (enc yd d) vd := hvr 0 _ vd rfl rfl
    have h1 : Rp Z waa V0 w (.u (.string ⟨⟨s⟩⟩)) vs := hvr 1 _ vs rfl rfl
    cases h1
    rw [he] at h0
    cases h0 with
    | agg _ arr hs hh =>
      have hsz : arr.size = wid yd := by rw [← hs, jn]
      have hI : In16 Z w (je yd d) arr := ⟨hgw, hzl, hzm, ⟨by simpa using hs, fun i p v h1 h2 => hh i p v h1 (by simpa using h2)⟩, by rw [hsz]; exact hz⟩
      obtain ⟨b, hb, hr⟩ := qg hr
      have hRb := hR.2 d b hb
      have e1 : pvs (vq [yd] d) = [.agg (je yd d)] := by
        show [enc yd d] = _
        rw [he]
      rw [e1] at hRb
      cases b with
      | false =>
        cases hr
        refine (callsIn_wide.1 (cut_no hI hRb s)).mono fun e W' ⟨h1, h2⟩ => ⟨_, _, h1, rfl, ?_, ?_, h2⟩
        · exact .fr _ _ _ fun c hc => by cases hc
        · refine .fr _ _ _ _ [] (fun y hy => by cases hy) (World.ownsRow_nil _ _ _ _) (fun b hb => by cases hb) (fun u hu => by cases hu) fun i p u hi hj => by cases hj
      | true =>
        have hNx : zqw (je yd d) (fun s a => (pN d s a).map fun m => (m.l.getD 0 0, m.l.getD 1 0)) := fun s a m hm => by
          obtain ⟨q, hq, rfl⟩ := wca.1 hm
          have := hN.2 (d, s, a) q hq
          have e2 : pvs (vq [yd, .str, .int .i64] (d, s, a)) = [.agg (je yd d), .u (.string ⟨⟨s⟩⟩), .u (.int .i64 a)] := by
            show [enc yd d, _, _] = _
            rw [he]
            rfl
          rw [e2] at this
          have e3 : enc (.arr 2 (.int .i64)) q = .agg [.u (.int .i64 (q.l.getD 0 0)), .u (.int .i64 (q.l.getD 1 0))] := by
            obtain ⟨l, hl⟩ := q
            match l, hl with
            | [x, y], _ => rfl
          rw [e3] at this
          exact this
        refine (callsIn_wide.1 (cut_in hI hNx hRb (zn4 hr))).mono fun e W' ⟨v, h1, h2, h3⟩ => ⟨_, _, h1, rfl, ?_, ?_, h3⟩
        · exact .fr _ _ _ fun c hc => by
            obtain ⟨x, _, rfl⟩ := wcf.1 hc
            exact Qw _ _
        · refine .fr _ _ _ _ (r.flatMap Z0) (fun y hy => ?_) ?_ (fun b hb hz => ?_) (fun u hu => ?_) fun i p u hi hj => ?_
          · obtain ⟨x, _, rfl⟩ := wcf.1 hy
            rfl
          · rw [wcs]
            exact yy h2 hzm fun b _ _ => rfl
          · have := (Jg h2 hb).1
            have := hzl b (yp.1 hz)
            omega
          · obtain ⟨x, _, hx⟩ := wcu.1 hu
            simp [Z0] at hx
            rcases hx with rfl | rfl <;> rfl
          · rw [zr2, wb9, hj] at hi
            cases hi
            exact .u _
end
end
end Go.Proofs.YtiafpechgjopfaaGreatDoor.T
