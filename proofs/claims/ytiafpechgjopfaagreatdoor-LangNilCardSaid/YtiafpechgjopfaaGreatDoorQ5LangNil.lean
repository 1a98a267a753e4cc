
import Derived.Test.YtiafpechgjopfaaGreatDoorQ4LangNil

namespace Go.Proofs.YtiafpechgjopfaaGreatDoor.T
noncomputable section
open _root_.Go.Proofs.Tryz
set_option maxRecDepth 100000
set_option maxHeartbeats 8000000
set_option linter.unusedVariables false
set_option linter.unusedSimpArgs false
set_option linter.defProp false
open List (replicate range)
open Go Go.RowKit L
abbrev We:=Arr 4 Int
abbrev Wd:=Arr 256 Int
abbrev Wc:=List UInt8
abbrev Wb:=List Bool
abbrev Wa:=List Int
abbrev W9:=List (Arr 4 Int)
abbrev W8:=List (List Bool)
abbrev W7:=List (List Int)
abbrev W6:=List (List (List Bool))
abbrev I6 : Ty := .int .i64
abbrev U8 : Ty := .int .u8
abbrev L6 : Ty := .sl I6
abbrev M6 : Ty := .sl L6
abbrev LB : Ty := .sl .bool
noncomputable def h0 := lk (α := HK) []
abbrev jp : Ty := (.st (.cons (.arr 256 U8) (.cons I6 (.cons M6 (.cons L6 .nil)))))
abbrev jw := ((Arr 256 Int) × Int × (List (List Int)) × (List Int) × Unit)
abbrev zig : Ty := (.st (.cons I6 (.cons .str .nil)))
abbrev ztc := (Int × (List UInt8) × Unit)
abbrev jl : Ty := (.st (.cons I6 (.cons (.arr 4 (.int .u64)) .nil)))
abbrev js := (Int × (Arr 4 Int) × Unit)
abbrev ze : Ty := (.st (.cons U8 (.cons .bool .nil)))
abbrev zdb := (Int × Bool × Unit)
abbrev qv : Ty := (.st .nil)
abbrev qu := (Unit)
abbrev Zl : Ty := (.st (.cons qv (.cons qv (.cons I6 .nil))))
abbrev Za := (qu × qu × Int × Unit)
abbrev qq : Ty := (.st (.cons .str (.cons (.sl jl) (.cons I6 .nil))))
abbrev qy := ((List UInt8) × (List js) × Int × Unit)
abbrev jy : Ty := (.st (.cons .bool (.cons I6 (.cons I6 (.cons I6 .nil)))))
abbrev jz := (Bool × Int × Int × Int × Unit)
abbrev ji : Ty := (.st (.cons I6 (.cons (.sl jy) .nil)))
abbrev jk := (Int × (List jz) × Unit)
abbrev jc : Ty := (.st (.cons (.sl qq) (.cons (.sl .str) (.cons (.sl ji) (.cons I6 (.cons I6 (.cons I6 (.cons I6 (.cons I6 .nil)))))))))
abbrev jd := ((List qy) × (List (List UInt8)) × (List jk) × Int × Int × Int × Int × Int × Unit)
abbrev jq : Ty := (.st (.cons I6 (.cons I6 (.cons I6 .nil))))
abbrev jm := (Int × Int × Int × Unit)
abbrev qb : Ty := (.st (.cons jc (.cons jq .nil)))
abbrev qa := (jd × jm × Unit)
abbrev yz : Ty := (.st (.cons jc (.cons jp (.cons M6 .nil))))
abbrev y2 := (jd × jw × (List (List Int)) × Unit)
abbrev jg : Ty := (.st (.cons .bool (.cons I6 (.cons I6 (.cons .bool (.cons (.arr 4 (.int .u64)) (.cons (.arr 4 (.int .u64)) .nil)))))))
abbrev jh := (Bool × Int × Int × Bool × (Arr 4 Int) × (Arr 4 Int) × Unit)
abbrev V3 : Ty := (.st (.cons LB (.cons M6 .nil)))
abbrev Vz := ((List Bool) × (List (List Int)) × Unit)
abbrev jj : Ty := (.st (.cons I6 (.cons I6 .nil)))
abbrev jb := (Int × Int × Unit)
abbrev zr8 : Ty := (.st (.cons L6 (.cons L6 (.cons .bool .nil))))
abbrev zsf := ((List Int) × (List Int) × Bool × Unit)
abbrev qt : Ty := (.st (.cons zr8 (.cons I6 .nil)))
abbrev qw := (zsf × Int × Unit)
abbrev zlh : Ty := (.st (.cons (.sl (.arr 4 (.int .u64))) (.cons M6 (.cons qt .nil))))
abbrev zlq := ((List (Arr 4 Int)) × (List (List Int)) × qw × Unit)
abbrev qm : Ty := (.st (.cons (.sl (.arr 4 (.int .u64))) (.cons L6 (.cons LB (.cons M6 (.cons L6 .nil))))))
abbrev qp := ((List (Arr 4 Int)) × (List Int) × (List Bool) × (List (List Int)) × (List Int) × Unit)
abbrev zng : Ty := (.st (.cons qv (.cons (.int .u32) .nil)))
abbrev znv := (qu × Int × Unit)
abbrev zgj : Ty := (.st (.cons (.int .i32) (.cons (.int .u32) .nil)))
abbrev zgp := (Int × Int × Unit)
abbrev znn : Ty := (.st (.cons qv (.cons zgj .nil)))
abbrev zn2 := (qu × zgp × Unit)
abbrev zrx : Ty := (.st (.cons qv (.cons zng (.cons znn .nil))))
abbrev zs4 := (qu × znv × zn2 × Unit)
abbrev ze9 : Ty := (.st (.cons jp (.cons M6 (.cons jq .nil))))
abbrev zgf := (jw × (List (List Int)) × jm × Unit)
abbrev zt4 : Ty := (.st (.cons jc (.cons zrx (.cons ze9 (.cons Zl (.cons Zl .nil))))))
abbrev zsp := (jd × zs4 × zgf × Za × Za × Unit)
noncomputable def zt0 : ZT := lk (α := List TS) [(3, [.c (.int .i64 0)]), (4, [.c (.bool false)]), (25, [.c (.int .i64 0), .c (.int .i64 0), .c (.int .i64 0)]), (28, [.v ⟨(.arr 256 U8), ⟨replicate 256 0, wb4⟩⟩]), (29, [.c (.slice none 0 0)]), (30, [.c (.slice none 0 0)]), (32, [.v ⟨(.arr 256 U8), ⟨replicate 256 0, wb4⟩⟩, .c (.int .i64 0), .c (.slice none 0 0), .c (.slice none 0 0)]), (36, [.c (.slice none 0 0)]), (38, [.c (.slice none 0 0)]), (45, [.c (.slice none 0 0), .c (.slice none 0 0), .c (.slice none 0 0), .c (.int .i64 0), .c (.int .i64 0), .c (.int .i64 0), .c (.int .i64 0), .c (.int .i64 0)]), (58, [.c (.int .i64 0), .c (.string ⟨#[]⟩)]), (66, [.c (.slice none 0 0)]), (71, [.v ⟨(.arr 256 U8), ⟨replicate 256 0, wb4⟩⟩, .c (.int .i64 0), .c (.slice none 0 0), .c (.slice none 0 0), .c (.slice none 0 0), .c (.int .i64 0), .c (.int .i64 0), .c (.int .i64 0)]), (94, [.c (.slice none 0 0), .c (.slice none 0 0), .c (.slice none 0 0), .c (.int .i64 0), .c (.int .i64 0), .c (.int .i64 0), .c (.int .i64 0), .c (.int .i64 0), .c (.int .u32 0), .c (.int .i32 0), .c (.int .u32 0), .v ⟨(.arr 256 U8), ⟨replicate 256 0, wb4⟩⟩, .c (.int .i64 0), .c (.slice none 0 0), .c (.slice none 0 0), .c (.slice none 0 0), .c (.int .i64 0), .c (.int .i64 0), .c (.int .i64 0), .c (.int .i64 0), .c (.int .i64 0)]), (100, [.c (.string ⟨#[]⟩), .c (.slice none 0 0), .c (.int .i64 0)]), (104, [.c (.int .i64 0), .c (.slice none 0 0)]), (110, [.c (.bool false), .c (.int .i64 0), .c (.int .i64 0), .c (.int .i64 0)]), (131, [.c (.slice none 0 0), .c (.slice none 0 0)]), (140, [.v ⟨(.arr 4 (.int .u64)), ⟨replicate 4 0, wb4⟩⟩]), (142, [.c (.int .i64 0), .v ⟨(.arr 4 (.int .u64)), ⟨replicate 4 0, wb4⟩⟩]), (158, [.c (.slice none 0 0), .c (.slice none 0 0), .c (.slice none 0 0), .c (.slice none 0 0), .c (.slice none 0 0)]), (175, [.c (.slice none 0 0), .c (.slice none 0 0), .c (.slice none 0 0), .c (.int .i64 0), .c (.int .i64 0), .c (.int .i64 0), .c (.int .i64 0), .c (.int .i64 0), .v ⟨(.arr 256 U8), ⟨replicate 256 0, wb4⟩⟩, .c (.int .i64 0), .c (.slice none 0 0), .c (.slice none 0 0), .c (.slice none 0 0)]), (180, [.c .nilFunc]), (182, [.v ⟨(.arr 2 I6), ⟨replicate 2 0, wb4⟩⟩]), (186, [.c (.slice none 0 0), .c (.int .i64 0), .c (.string ⟨#[]⟩)]), (219, [.c (.int .i64 0), .c (.int .i64 0)]), (241, [.c (.slice none 0 0), .c (.slice none 0 0), .c (.slice none 0 0), .c (.int .i64 0), .c (.int .i64 0), .c (.int .i64 0), .c (.int .i64 0), .c (.int .i64 0), .c (.int .i64 0), .c (.int .i64 0), .c (.int .i64 0)]), (243, [.c .nilFunc]), (257, [.c (.int .u8 0), .c (.bool false)]), (279, [.v ⟨(.arr 3 I6), ⟨replicate 3 0, wb4⟩⟩]), (285, [.c (.bool false), .c (.int .i64 0), .c (.int .i64 0), .c (.bool false), .v ⟨(.arr 4 (.int .u64)), ⟨replicate 4 0, wb4⟩⟩, .v ⟨(.arr 4 (.int .u64)), ⟨replicate 4 0, wb4⟩⟩]), (287, [.c (.map none)]), (295, [.c (.slice none 0 0), .c (.slice none 0 0), .c (.slice none 0 0), .c (.slice none 0 0)]), (318, [.c (.slice none 0 0), .c (.slice none 0 0), .c (.bool false)]), (320, [.c (.slice none 0 0), .c (.slice none 0 0), .c (.bool false), .c (.int .i64 0)]), (322, [.c (.slice none 0 0), .c (.slice none 0 0), .c (.slice none 0 0), .c (.slice none 0 0), .c (.bool false), .c (.int .i64 0)]), (326, [.c (.pointer none)]), (329, [.c (.slice none 0 0), .c (.slice none 0 0)]), (335, [.c .nilFunc, .c .nilFunc, .c .nilFunc]), (341, [.c (.slice none 0 0)]), (357, [.c (.int .u64 0)])]
theorem z0k : zai Tryz.prog zt0 := zc (by kernel_rfl) (by kernel_rfl) (by kernel_rfl) <| zc (by kernel_rfl) (by kernel_rfl) (by kernel_rfl) <| zc (by kernel_rfl) (by kernel_rfl) (by kernel_rfl) <| zc (by kernel_rfl) (by kernel_rfl) (by kernel_rfl) <| zc (by kernel_rfl) (by kernel_rfl) (by kernel_rfl) <| zc (by kernel_rfl) (by kernel_rfl) (by kernel_rfl) <| zc (by kernel_rfl) (by kernel_rfl) (by kernel_rfl) <| zc (by kernel_rfl) (by kernel_rfl) (by kernel_rfl) <| zc (by kernel_rfl) (by kernel_rfl) (by kernel_rfl) <| zc (by kernel_rfl) (by kernel_rfl) (by kernel_rfl) <| zc (by kernel_rfl) (by kernel_rfl) (by kernel_rfl) <| zc (by kernel_rfl) (by kernel_rfl) (by kernel_rfl) <| zc (by kernel_rfl) (by kernel_rfl) (by kernel_rfl) <| zc (by kernel_rfl) (by kernel_rfl) (by kernel_rfl) <| zc (by kernel_rfl) (by kernel_rfl) (by kernel_rfl) <| zc (by kernel_rfl) (by kernel_rfl) (by kernel_rfl) <| zc (by kernel_rfl) (by kernel_rfl) (by kernel_rfl) <| zc (by kernel_rfl) (by kernel_rfl) (by kernel_rfl) <| zc (by kernel_rfl) (by kernel_rfl) (by kernel_rfl) <| zc (by kernel_rfl) (by kernel_rfl) (by kernel_rfl) <| zc (by kernel_rfl) (by kernel_rfl) (by kernel_rfl) <| zc (by kernel_rfl) (by kernel_rfl) (by kernel_rfl) <| zc (by kernel_rfl) (by kernel_rfl) (by kernel_rfl) <| zc (by kernel_rfl) (by kernel_rfl) (by kernel_rfl) <| zc (by kernel_rfl) (by kernel_rfl) (by kernel_rfl) <| zc (by kernel_rfl) (by kernel_rfl) (by kernel_rfl) <| zc (by kernel_rfl) (by kernel_rfl) (by kernel_rfl) <| zc (by kernel_rfl) (by kernel_rfl) (by kernel_rfl) <| zc (by kernel_rfl) (by kernel_rfl) (by kernel_rfl) <| zc (by kernel_rfl) (by kernel_rfl) (by kernel_rfl) <| zc (by kernel_rfl) (by kernel_rfl) (by kernel_rfl) <| zc (by kernel_rfl) (by kernel_rfl) (by kernel_rfl) <| zc (by kernel_rfl) (by kernel_rfl) (by kernel_rfl) <| zc (by kernel_rfl) (by kernel_rfl) (by kernel_rfl) <| zc (by kernel_rfl) (by kernel_rfl) (by kernel_rfl) <| zc (by kernel_rfl) (by kernel_rfl) (by kernel_rfl) <| zc (by kernel_rfl) (by kernel_rfl) (by kernel_rfl) <| zc (by kernel_rfl) (by kernel_rfl) (by kernel_rfl) <| zc (by kernel_rfl) (by kernel_rfl) (by kernel_rfl) <| zc (by kernel_rfl) (by kernel_rfl) (by kernel_rfl) <| zc (by kernel_rfl) (by kernel_rfl) (by kernel_rfl) <| zn
noncomputable def zt2 : ZT := fun t => cond (Nat.beq t 182) (some [.c (.int .i64 0), .c (.int .i64 0)]) (cond (Nat.beq t 279) (some [.c (.int .i64 0), .c (.int .i64 0), .c (.int .i64 0)]) (zt0 t))
theorem zt2_ok : zai Tryz.prog zt2 := fun t xs h => by
  unfold zt2 at h
  refine zr4 h (fun e h => ?_) fun h => ?_
  · subst e; cases h; exact ⟨(zio Tryz.prog 182).getD [], by kernel_rfl, by kernel_rfl, wao (by kernel_rfl)⟩
  refine zr4 h (fun e h => ?_) fun h => ?_
  · subst e; cases h; exact ⟨(zio Tryz.prog 279).getD [], by kernel_rfl, by kernel_rfl, wao (by kernel_rfl)⟩
  exact z0k t xs h
noncomputable def zy0 : ZY := fun t => cond (Nat.beq t 3) (some ⟨I6, 0⟩) (cond (Nat.beq t 4) (some ⟨.bool, false⟩) (cond (Nat.beq t 5) (some ⟨U8, 0⟩) (cond (Nat.beq t 30) (some ⟨L6, []⟩) (none))))
def zw6 : Ty.D .str → Ty.D .str → Bool := fun a b => a == b
theorem z3t : zhk Tryz.prog 9 (oV .str) zw6 := klawT (by kernel_rfl)
def zzj (a : Ty.D jj) : Array Value := #[.int .i64 a.1, .int .i64 a.2.1]
def zui (a b : Ty.D jj) : List Bool := [a.1 == b.1, a.2.1 == b.2.1]
def zmk (a b : Ty.D jj) : Bool := (zui a b).all id
theorem zym : zhk Tryz.prog 219 (oV jj) zmk := z45 (kc := zzj) (eb := zui) (0, 0, ()) (fun a b => by kernel_rfl) (fun a b h => by
  simp [zui] at h
  exact Prod.ext h.1 (Prod.ext h.2 rfl)) (fun a => by simp [zzj, Instr.sameBits])
def z0u (a : Ty.D ze) : Array Value := #[.int .u8 a.1, .bool a.2.1]
def zve (a b : Ty.D ze) : List Bool := [a.1 == b.1, a.2.1 == b.2.1]
def zk4 (a b : Ty.D ze) : Bool := (zve a b).all id
theorem zxu : zhk Tryz.prog 257 (oV ze) zk4 := z45 (kc := z0u) (eb := zve) (0, false, ()) (fun a b => by kernel_rfl) (fun a b h => by
  simp [zve] at h
  exact Prod.ext h.1 (Prod.ext h.2 rfl)) (fun a => by simp [z0u, Instr.sameBits])
noncomputable def ky0 : TypeId → Option KY := fun k => cond (Nat.beq k 9) (some ⟨.str, zw6⟩) (cond (Nat.beq k 219) (some ⟨jj, zmk⟩) (cond (Nat.beq k 257) (some ⟨ze, zk4⟩) (none)))
theorem ky0_ok : znl Tryz.prog ky0 := fun k x h => by
  simp only [ky0] at h
  refine zr4 h (fun e h => ?_) fun h => ?_
  · subst e; cases h; exact ⟨rfl, z3t⟩
  refine zr4 h (fun e h => ?_) fun h => ?_
  · subst e; cases h; exact ⟨rfl, zym⟩
  refine zr4 h (fun e h => ?_) fun h => ?_
  · subst e; cases h; exact ⟨rfl, zxu⟩
  cases h
set_option maxHeartbeats 2000000 in
theorem z3k : ztl Tryz.prog 70 104 2 := by
  have hu : Tryz.prog.underlying 43 = some (.slice 104) := by kernel_rfl
  have q22 : ∀ (w : World) (a : Option Addr) (n c n' c' : Nat), (binOp .eql 43 (.slice a n c) (.slice none n' c')).run Tryz.prog w = .ok (.bool a.isNone) w := fun w a n c n' c' => Lib.run_eql_slice_nil w _ _ a n c n' c' hu
  refine zrz (by kernel_rfl) (fun c w => ?_) fun a c w => ?_
  · go_enter Tryz.func70, Tryz.ntmps70
    go_wp2
    go_ret
    exact ⟨rfl, rfl⟩
  · have hs0 : (q6 Tryz.prog 43).map (fun r => (r.1, r.2.1, r.2.2.1)) = some (104, 2, 32) := by kernel_rfl
    obtain ⟨⟨e', k', b', z⟩, hse⟩ : ∃ r, q6 Tryz.prog 43 = some r := by
      cases h : q6 Tryz.prog 43 with
      | none => rw [h] at hs0; cases hs0
      | some r => exact ⟨r, rfl⟩
    rw [hse] at hs0
    simp only [wcd, wco, wdl] at hs0
    obtain ⟨rfl, rfl, rfl⟩ := hs0
    obtain ⟨i, hu2, hi, hz, hsz, hby, hzs, hpos⟩ := yo hse
    clear hse
    go_enter Tryz.func70, Tryz.ntmps70
    go_wp2_with (at_builtin; refine wpList_append_own _ rfl _ _ 43 rfl w.heap.size 104 i z 2 32 hu hi hz hsz hby hzs hpos _ _ _ rfl (World.ownsRow_made w #[] 0 (wb7 _) (wdq _) rfl) a 0 c [] rfl rfl (by intro j u hj; simp at hj) (by intro u hu; cases hu) (by unfold maxLen; omega) (by omega) (by simp) ?_)
    intro v' w1 hown hgrow hnil
    go_wp2
    go_ret
    refine ⟨v', rfl, hown, ?_⟩
    exact ((Below.refl _ w).alloc (wb7 _) _).grown hgrow (by simp) (by intro k hk; simp [Value.ownBlock] at hk; omega)
set_option maxHeartbeats 2000000 in
theorem z2n : ztl Tryz.prog 67 100 3 := by
  have hu : Tryz.prog.underlying 41 = some (.slice 100) := by kernel_rfl
  have q22 : ∀ (w : World) (a : Option Addr) (n c n' c' : Nat), (binOp .eql 41 (.slice a n c) (.slice none n' c')).run Tryz.prog w = .ok (.bool a.isNone) w := fun w a n c n' c' => Lib.run_eql_slice_nil w _ _ a n c n' c' hu
  refine zrz (by kernel_rfl) (fun c w => ?_) fun a c w => ?_
  · go_enter Tryz.func67, Tryz.ntmps67
    go_wp2
    go_ret
    exact ⟨rfl, rfl⟩
  · have hs0 : (q6 Tryz.prog 41).map (fun r => (r.1, r.2.1, r.2.2.1)) = some (100, 3, 48) := by kernel_rfl
    obtain ⟨⟨e', k', b', z⟩, hse⟩ : ∃ r, q6 Tryz.prog 41 = some r := by
      cases h : q6 Tryz.prog 41 with
      | none => rw [h] at hs0; cases hs0
      | some r => exact ⟨r, rfl⟩
    rw [hse] at hs0
    simp only [wcd, wco, wdl] at hs0
    obtain ⟨rfl, rfl, rfl⟩ := hs0
    obtain ⟨i, hu2, hi, hz, hsz, hby, hzs, hpos⟩ := yo hse
    clear hse
    go_enter Tryz.func67, Tryz.ntmps67
    go_wp2_with (at_builtin; refine wpList_append_own _ rfl _ _ 41 rfl w.heap.size 100 i z 3 48 hu hi hz hsz hby hzs hpos _ _ _ rfl (World.ownsRow_made w #[] 0 (wb7 _) (wdq _) rfl) a 0 c [] rfl rfl (by intro j u hj; simp at hj) (by intro u hu; cases hu) (by unfold maxLen; omega) (by omega) (by simp) ?_)
    intro v' w1 hown hgrow hnil
    go_wp2
    go_ret
    refine ⟨v', rfl, hown, ?_⟩
    exact ((Below.refl _ w).alloc (wb7 _) _).grown hgrow (by simp) (by intro k hk; simp [Value.ownBlock] at hk; omega)
noncomputable def cl0 : FuncId → Option (TypeId × Nat) := lk ((67, (100, 3)) :: (70, (104, 2)) :: [])
theorem cl0_ok : zuy Tryz.prog cl0 := cc (y := (100, 3)) z2n (cc (y := (104, 2)) z3k (cn))
noncomputable def gl0 : GlK := fun g t => match g, t with
  | 0, 182 => some ⟨(.arr 2 (.int .i64)), (⟨[-1, 0], rfl⟩ : Arr 2 Int)⟩
  | _, _ => none
theorem gl0_ok : GlOk Tryz.prog gl0 := fun g t d h => by
  unfold gl0 at h
  split at h
  · cases h; exact ⟨[.int .i64 (-1), .int .i64 (0)], true, 2, _, by simp [glT], by kernel_rfl, by kernel_rfl, Ref.refl _⟩
  · cases h
noncomputable def cf0 : Cfg := ⟨zt0, zt2, zy0, ky0, oc0, atm0, cl0, gl0⟩
theorem zre : zzh cf0 := ⟨z0k, zt2_ok, ky0_ok, oc0_ok, z3g, gl0_ok, cl0_ok⟩
theorem mk1 : type_of% (@mkP cf0 zre) := no_implicit_lambda% (@mkP cf0 zre)
theorem mk2 : type_of% (@mkF cf0 zre) := no_implicit_lambda% (@mkF cf0 zre)
noncomputable def zgb (nn : Nat) (a0 : jw) (a1 : (List UInt8)) (a2 : Int) : Option (Arr 2 Int) := J (σ := Int × (Arr 2 Int) × (Arr 2 Int)) (fun (a, b, c) => J (σ := (Arr 2 Int) × (Arr 2 Int)) (fun (e, f) => some f) fun g => ifB (c.l == (⟨[-1, 0], rfl⟩ : Arr 2 Int).l) (ja (qn 2 1) fun h => ja (zu0 c h (w64 (a + 1))) fun i => g (b, i)) (g (b, c))) fun d => jr (σ := (List UInt8) × Int × Int × Int × jw × (Arr 2 Int) × (Arr 2 Int)) (fun (j, k, l, m, n, o, p) q => ifB (decide (l < (j.length : Int))) (J (σ := (List UInt8) × Int × Int × Int × jw × (Arr 2 Int) × (Arr 2 Int)) (fun (r, s, u, v, w, x, y) => ja (some (w64 (u + 1))) fun b0 => q (r, s, b0, v, w, x, y)) fun z => ja (atL n.2.2.1 m) fun b1 => ja (zpt j l) fun b2 => ja (qn 256 b2) fun b3 => ja (atL n.1.l b3) fun b4 => ja (atL b1 b4) fun b5 => ifB (decide (b5 < 0)) (d (k, o, p)) (ja (atL n.2.2.2.1 b5) fun b6 => ifB (decide (0 ≤ b6)) (z (j, k, l, b5, n, o, (⟨[b6, w64 (l + 1)], rfl⟩ : Arr 2 Int))) (z (j, k, l, b5, n, o, p)))) (d (k, o, p))) nn (a1, a2, a2, 0, a0, ⟨replicate 2 0, wb4⟩, (⟨[-1, 0], rfl⟩ : Arr 2 Int))
noncomputable def zrc := lk (α := HK) [(15, me [vp 6 0, vp 7 1] [.box 182 [.v (.arr 2 I6)], .box 182 [.v (.arr 2 I6)]] 2), (29, me [vi 2, vp 6 0, vp 7 1] [.box 182 [.v (.arr 2 I6)], .box 182 [.v (.arr 2 I6)]] 2), (58, me [(1, .v .str), vi 2, vp 3 0, vp 6 1, vp 7 2, vi 8, vi 9] [.box 32 [.v jp], .box 182 [.v (.arr 2 I6)], .box 182 [.v (.arr 2 I6)]] 3), (466, me [(1, .v .str), vi 2, vp 3 0, vp 6 1, vp 7 2, vi 8, vi 9] [.box 32 [.v jp], .box 182 [.v (.arr 2 I6)], .box 182 [.v (.arr 2 I6)]] 3)]
theorem zkb (nn : Nat) : qk 99 ⟨[jp, .str, I6], (.arr 2 I6), fun t => zgb nn (t.1) (t.2.1) (t.2.2)⟩ := mk1 Tryz.func99 nn 0 [(0, [18])] [] [] [] itn zrc rn gn tn (by kernel_rfl) fun t => by kernel_rfl
noncomputable def zly (nn : Nat) (a0 : (Arr 4 Int)) (a1 : Int) : Option Bool := ja (zu1 .u8 a1 64) fun a => ja (qn 4 a) fun b => ja (atL a0.l b) fun c => ja (zx3 .u8 a1 64) fun d => ja (zzi .u64 1 d) fun e => some (decide (¬ (andI .u64 c e) = 0))
theorem znm (nn : Nat) : qk 196 ⟨[(.arr 4 (.int .u64)), U8], .bool, fun t => zly nn (t.1) (t.2)⟩ := mk1 Tryz.func196 nn 0 [] [] [] [] itn h0 rn gn tn (by kernel_rfl) fun t => by kernel_rfl
noncomputable def zbs (nn : Nat) (a0 : (Arr 256 Int)) (a1 : (Arr 4 Int)) : Option (Arr 256 Int) := jr (σ := Int × (Arr 256 Int) × (Arr 4 Int) × (Arr 256 Int) × (List (zdb × Int × Unit))) (fun (a, b, c, d, e) f => ifB (decide (a < 256)) (ja (qn 256 a) fun g => ja (atL b.l g) fun h => ja (zly nn c (wr .u8 a)) fun i => J (σ := Int × Int × (Arr 256 Int) × (Arr 4 Int) × (Arr 256 Int) × (List (zdb × Int × Unit)) × zdb) (fun (j, k, l, m, n, o, p) => ja (some (zgr zk4 o p)) fun r => ja (qn 256 j) fun s => ja (zu0 l s (gD 0 r)) fun u => ja (some (w64 (k + 1))) fun v => f (v, u, m, n, o)) fun q => ja (some (zgr zk4 e (h, i, ()))) fun w => ifB (!w.isSome) (ja (some (e.length : Int)) fun x => ja (some (zis zk4 e (h, i, ()) (wr .u8 x))) fun y => q (a, a, b, c, d, y, (h, i, ()))) (q (a, a, b, c, d, e, (h, i, ())))) (some b)) nn (0, a0, a1, ⟨replicate 256 0, wb4⟩, [])
noncomputable def zpu := lk (α := HK) [(58, me [vp 2 0, vp 3 1, vp 4 2, vo 5 3, vi 11] [.box 28 [.v (.arr 256 U8)], .box 140 [.v (.arr 4 (.int .u64))], .box 28 [.v (.arr 256 U8)], .obj (.mp ze U8)] 4), (7475, me [vp 2 0, vp 3 1, vp 4 2, vo 5 3, vi 6, vp 7 4, vi 11] [.box 28 [.v (.arr 256 U8)], .box 140 [.v (.arr 4 (.int .u64))], .box 28 [.v (.arr 256 U8)], .obj (.mp ze U8), .box 257 [.v ze]] 5)]
theorem zb5 (nn : Nat) : qk 153 ⟨[(.arr 256 U8), (.arr 4 (.int .u64))], (.arr 256 U8), fun t => zbs nn (t.1) (t.2)⟩ := mk1 Tryz.func153 nn 0 [(0, [40])] [] [] [] itn zpu rn gn (tc (znm nn) tn) (by kernel_rfl) fun t => by kernel_rfl
noncomputable def zf6 (nn : Nat) (a0 : (Arr 256 Int)) : Option Bool := ja (zbs nn a0 (⟨replicate 4 0, wb4⟩)) fun a => some (a.l == a0.l)
theorem zi4 (nn : Nat) : qk 96 ⟨[(.arr 256 U8)], .bool, fun t => zf6 nn t⟩ := mk1 Tryz.func96 nn 0 [] [] [] [] itn h0 rn gn (tc (zb5 nn) tn) (by kernel_rfl) fun t => by kernel_rfl
noncomputable def zbz (nn : Nat) (a0 : (Arr 256 Int)) : Option Int := jr (σ := Int × (Arr 256 Int) × Int) (fun (a, b, c) d => ifB (decide (c < 256)) (ja (atL b.l c) fun e => ja (some (max a (w64 ((wr .i64 e) + 1)))) fun f => ja (some (w64 (c + 1))) fun g => d (f, b, g)) (some a)) nn (0, a0, 0)
noncomputable def zqj := lk (α := HK) [(58, me [vi 3, (6, .v (.arr 256 U8)), vi 7] [] 0)]
theorem zb6 (nn : Nat) : qk 97 ⟨[(.arr 256 U8)], I6, fun t => zbz nn t⟩ := mk1 Tryz.func97 nn 0 [(0, [14, 15])] [] [] [] itn zqj rn gn tn (by kernel_rfl) fun t => by kernel_rfl
noncomputable def Ql (nn : Nat) (a0 : jw) : Option Bool := ja (some (a0.2.2.1.length : Int)) fun a => J (σ := Int × Bool × jw) (fun (b, c, d) => ifB c (some false) (J (fun (f : Bool) => some f) fun g => jr (σ := Int × Bool × (List (List Int)) × Int × Int × jw) (fun (h, i, j, k, l, m) n => ifB (decide (l < k)) (ja (atL j l) fun o => J (σ := Int × Bool × (List Int) × (List (List Int)) × Int × Int × Bool × jw) (fun (p, q, r, s, u, v, w, x) => ifB w (g false) (jr (σ := Int × Bool × (List (List Int)) × Int × Int × (List Int) × Int × Int × jw) (fun (z, b0, b1, b2, b3, b4, b5, b6, b7) b8 => ifB (decide (b6 < b5)) (ja (atL b4 b6) fun b9 => J (σ := Int × Bool × (List (List Int)) × Int × Int × (List Int) × Int × Int × Bool × jw) (fun (c0, c1, c2, c3, c4, c5, c6, c7, c8, c9) => ifB c8 (g false) (ja (some (w64 (c7 + 1))) fun d1 => b8 (c0, c1, c2, c3, c4, c5, c6, d1, c9))) fun d0 => ja (some (decide (b9 < (-1)))) fun d2 => ifB d2 (d0 (z, b0, b1, b2, b3, b4, b5, b6, true, b7)) (d0 (z, b0, b1, b2, b3, b4, b5, b6, decide (z ≤ b9), b7))) (ja (some (w64 (b3 + 1))) fun d3 => n (z, b0, b1, b2, d3, b7))) nn (p, q, s, u, v, r, (r.length : Int), 0, x))) fun y => ja (some (decide (¬ (o.length : Int) = m.2.1))) fun d4 => ifB d4 (y (h, i, o, j, k, l, true, m)) (ja (atL m.2.2.2.1 l) fun d5 => y (h, i, o, j, k, l, decide (d5 < (-1)), m))) (g i)) nn (b, true, d.2.2.1, (d.2.2.1.length : Int), 0, d))) fun e => ja (some (decide (a = 0))) fun d6 => ifB d6 (e (a, true, a0)) (ifB (decide (¬ (a0.2.2.2.1.length : Int) = a)) (e (a, true, a0)) (ja (zf6 nn a0.1) fun d7 => ifB (!d7) (e (a, true, a0)) (ja (zbz nn a0.1) fun d8 => e (a, decide (¬ d8 = a0.2.1), a0))))
noncomputable def zsu := lk (α := HK) [(52, me [vp 1 0, vi 3, vb 34] [.box 32 [.v jp]] 1), (445, me [vb 4] [] 0), (890, me [vp 1 0, vi 3, vb 4, (36, .v M6), vi 37, vi 38] [.box 32 [.v jp]] 1), (227940, me [vp 1 0, vi 3, vb 4, vl 6, (36, .v M6), vi 37, vi 38, vb 55] [.box 32 [.v jp]] 1), (455886, me [vp 1 0, vi 3, vb 4, (36, .v M6), vi 37, vi 38, vl 56, vi 57, vi 58] [.box 32 [.v jp]] 1), (58353458, me [vp 1 0, vi 3, vb 4, (36, .v M6), vi 37, vi 38, vl 56, vi 57, vi 58, vb 68] [.box 32 [.v jp]] 1)]
theorem Q1 (nn : Nat) : qk 61 ⟨[jp], .bool, fun t => Ql nn t⟩ := mk1 Tryz.func61 nn 0 [(0, [11, 13, 47, 63, 69, 70])] [] [] [] itn zsu rn gn (tc (zi4 nn) (tc (zb6 nn) tn)) (by kernel_rfl) fun t => by kernel_rfl
noncomputable def Qk (nn : Nat) (a0 : jw) (a1 : List UInt8) : Option (List ztc) := cutP (yd := jp) (Ql nn) (zgb nn) nn a0 a1
theorem zkt (nn : Nat) : FFOk 38 ⟨[jp, .str], 58, zig, fun t => Qk nn t.1 t.2⟩ := cut_ok rfl (by kernel_rfl) (Q1 nn) (zkb nn) nn
theorem zdc (nn : Nat) : qk 38 ⟨[jp, .str], .sl zig, fun t => Qk nn t.1 t.2⟩ := (zkt nn).pure
noncomputable def zfc (nn : Nat) (a0 a1 : List js) : Option Bool := none
theorem zj7 (nn : Nat) : qk 66 ⟨[.sl jl, .sl jl], .bool, fun t => zfc nn t.1 t.2⟩ := ⟨by kernel_rfl, fun t r h => by cases h⟩
noncomputable def Yw (nn : Nat) (a0 : (List qy)) : Option (List (List UInt8)) := jr (σ := (List qy) × Int × Int × (List (List UInt8))) (fun (a, b, c, d) e => ifB (decide (c < b)) (ja (atL a c) fun f => ja (apO 16 d [f.1]) fun g => ja (some (w64 (c + 1))) fun h => e (a, b, h, g)) (some d)) nn (a0, (a0.length : Int), 0, [])
noncomputable def zpw := lk (α := HK) [(58, me [vo 3 0, (6, .v (.sl qq)), vi 7, vi 8] [.row 9 .str] 1)]
theorem zb8 (nn : Nat) : FFOk 222 ⟨[(.sl qq)], 9, .str, fun t => Yw nn t⟩ := mk2 Tryz.func222 nn 0 [(0, [17])] [(0, [(15, .told .str)])] [] [] itn zpw rn gn tn (by kernel_rfl) fun t => by kernel_rfl
noncomputable abbrev zri := Yw
theorem zjl (nn : Nat) : qk 222 ⟨[(.sl qq)], (.sl .str), fun t => Yw nn t⟩ := (zb8 nn).pure
noncomputable def zi1 (nn : Nat) (a0 : Int) : Option Int := J (σ := Int × Bool) (fun (a, b) => ifB b (some 2) (J (fun (d : Bool) => ifB d (some 1) (some 0)) fun e => ja (some (decide (48 ≤ a))) fun f => ifB f (e (decide (a ≤ 57))) (e false))) fun c => J (σ := Int × Bool) (fun (g, h) => ifB h (c (g, h)) (J (σ := Int × Bool) (fun (j, k) => ifB k (c (j, k)) (ja (some (decide (j = 95))) fun m => c (j, m))) fun l => ja (some (decide (65 ≤ g))) fun n => ifB n (l (g, decide (g ≤ 90))) (l (g, false)))) fun i => ja (some (decide (97 ≤ a0))) fun o => ifB o (i (a0, decide (a0 ≤ 122))) (i (a0, false))
noncomputable def ztu := lk (α := HK) [(12, me [(0, .v (.int .i32)), vb 3] [] 0), (48, me [(0, .v (.int .i32)), vb 3] [] 0), (102, me [vb 18] [] 0), (198, me [(0, .v (.int .i32)), vb 3] [] 0)]
theorem zlu (nn : Nat) : qk 292 ⟨[(.int .i32)], I6, fun t => zi1 nn t⟩ := mk1 Tryz.func292 nn 0 [(0, [5, 11, 17, 20])] [] [] [] itn ztu rn gn tn (by kernel_rfl) fun t => by kernel_rfl
noncomputable def zc1 (nn : Nat) (a0 : (List UInt8)) : Option Bool := jr (σ := (List UInt8) × ((List UInt8) × Int × Unit)) (fun (a, b) c => ifB (zhf b.1 b.2.1) (ja (zi1 nn (z08 b.1 b.2.1)) fun d => J (σ := (List UInt8) × Bool × ((List UInt8) × Int × Unit)) (fun (e, f, g) => ifB f (some false) (c (e, g))) fun h => ja (some (decide (d = 0))) fun i => ifB i (h (a, true, (b.1, zey b.1 b.2.1, ()))) (ja (some (decide (d = 1))) fun j => ifB j (h (a, decide ((z42 b.2.1) = 0), (b.1, zey b.1 b.2.1, ()))) (h (a, false, (b.1, zey b.1 b.2.1, ()))))) (J (fun (k : Bool) => some k) fun l => ja (some (!(a == []))) fun m => ifB m (l (decide ((a.length : Int) ≤ 32))) (l false))) nn (a0, (a0, 0, ()))
noncomputable def zs3 := lk (α := HK) [(14, me [vb 2] [] 0), (26, me [(0, .v .str), vo 7 0] [.obj .si] 1), (3382, me [(0, .v .str), vo 7 0, vb 23] [.obj .si] 1)]
theorem zmr (nn : Nat) : qk 269 ⟨[.str], .bool, fun t => zc1 nn t⟩ := mk1 Tryz.func269 nn 0 [(0, [15, 18, 25])] [] [] [] itn zs3 rn gn (tc (zlu nn) tn) (by kernel_rfl) fun t => by kernel_rfl
noncomputable def y5 (nn : Nat) (a0 : (List (List UInt8))) (a1 : (List UInt8)) : Option Int := jr (σ := (List (List UInt8)) × (List UInt8) × Int × Int) (fun (a, b, c, d) e => ifB (decide (d < c)) (ja (atL a d) fun f => ifB (b == f) (some d) (ja (some (w64 (d + 1))) fun g => e (a, b, c, g))) (some (-1))) nn (a0, a1, (a0.length : Int), 0)
noncomputable def Vh := lk (α := HK) [(26, me [(0, .v (.sl .str)), (1, .v .str), vi 7, vi 8] [] 0)]
theorem Qd (nn : Nat) : qk 293 ⟨[(.sl .str), .str], I6, fun t => y5 nn (t.1) (t.2)⟩ := mk1 Tryz.func293 nn 0 [(0, [18])] [] [] [] itn Vh rn gn tn (by kernel_rfl) fun t => by kernel_rfl
noncomputable def zcv (nn : Nat) (a0 : (List (List UInt8))) (a1 : (List UInt8)) : Option Int := ja (y5 nn a0 a1) fun a => some a
theorem zku (nn : Nat) : qk 270 ⟨[(.sl .str), .str], I6, fun t => zcv nn (t.1) (t.2)⟩ := mk1 Tryz.func270 nn 0 [] [] [] [] itn h0 rn gn (tc (Qd nn) tn) (by kernel_rfl) fun t => by kernel_rfl
noncomputable def zwx (nn : Nat) (a0 : js) : Option (Int × Bool × Unit) := J (fun (a : Unit) => some (0, false, ())) fun b => J (fun (c : Int) => some (c, true, ())) fun d => J (fun (e : Int) => ja (some (w64 (e + 1))) fun g => d g) fun f => J (σ := Int × Int × Bool) (fun (h, i, j) => ifB j (ja (some (w64 (h + 1))) fun l => f l) (J (σ := Int × Int × Bool) (fun (m, n, o) => ifB o (f m) (J (σ := Int × Bool) (fun (q, r) => ifB r (d q) (b ())) fun s => ja (some (decide (n = 1))) fun u => ifB u (s (m, u)) (ja (some (decide (n = 2))) fun v => s (m, v)))) fun p => ja (some (decide (i = 5))) fun w => ifB w (p (h, i, w)) (ja (some (decide (i = 6))) fun x => ifB x (p (h, i, x)) (ja (some (decide (i = 7))) fun y => p (h, i, y))))) fun k => ja (some (decide (a0.1 = 3))) fun z => ifB z (k (0, a0.1, z)) (ja (some (decide (a0.1 = 4))) fun b0 => k (0, a0.1, b0))
noncomputable def z4k := lk (α := HK) [(29, me [] [] 0), (116, me [vi 4] [] 0), (464, me [vi 4] [] 0), (14848, me [vi 4, vi 6, vb 7] [] 0), (29698, me [vi 4, vi 6, vb 10] [] 0), (29699, me [vi 4, vb 14] [] 0)]
theorem zug (nn : Nat) : qk 294 ⟨[jl], (.tup (.cons I6 (.cons .bool .nil))), fun t => zwx nn t⟩ := mk1 Tryz.func294 nn 0 [(0, [8, 9, 11, 12, 13, 15, 16, 18, 20])] [] [] [] itn z4k rn gn tn (by kernel_rfl) fun t => by kernel_rfl
noncomputable def zn9 (nn : Nat) (a0 : (List js)) : Option (Int × Int × Int × Unit) := ifB (decide (512 < (a0.length : Int))) (some (0, 0, 4, ())) (jr (σ := Int × Int × (List js) × Int × Int) (fun (a, b, c, d, e) f => ifB (decide (e < d)) (ja (atL c e) fun g => ja (zwx nn g) fun h => J (σ := Int × Int × Int × (List js) × Int × Int × Bool) (fun (i, j, k, l, m, n, o) => ifB o (some (0, 0, 1, ())) (ifB (decide (i < k)) (some (0, 0, 3, ())) (ja (some (w64 (i + (w64 (1 - k))))) fun q => ja (some (max j q)) fun r => ja (some (w64 (n + 1))) fun s => f (q, r, l, m, s)))) fun p => ja (some (!h.2.1)) fun u => ifB u (p (a, b, h.1, c, d, e, u)) (J (σ := Int × Int × Int × (List js) × Int × Int × Bool) (fun (v, w, x, y, z, b0, b1) => p (v, w, x, y, z, b0, b1)) fun b2 => ja (some (decide (¬ g.1 = 1))) fun b3 => ifB b3 (b2 (a, b, h.1, c, d, e, !(g.2.1.l == (⟨replicate 4 0, wb4⟩ : Arr 4 Int).l))) (b2 (a, b, h.1, c, d, e, false)))) (some (a, b, 0, ()))) nn (0, 0, a0, (a0.length : Int), 0))
noncomputable def zyq := lk (α := HK) [(122, me [vi 5, vi 6, (14, .v (.sl jl)), vi 15, vi 16] [] 0), (62668, me [vi 5, vi 6, vi 9, (14, .v (.sl jl)), vi 15, vi 16, vb 25] [] 0), (501347, me [vi 5, vi 6, vi 9, (14, .v (.sl jl)), vi 15, vi 16, vb 25] [] 0)]
theorem zps (nn : Nat) : qk 271 ⟨[(.sl jl)], (.tup (.cons I6 (.cons I6 (.cons I6 .nil)))), fun t => zn9 nn t⟩ := mk1 Tryz.func271 nn 0 [(0, [27, 30, 44, 47, 48])] [] [] [] itn zyq rn gn (tc (zug nn) tn) (by kernel_rfl) fun t => by kernel_rfl
noncomputable def zbd (nn : Nat) (a0 : (List js)) : Option Int := ja (zn9 nn a0) fun a => J (σ := Int × Bool) (fun (b, c) => ifB c (some 3) (some b)) fun d => ja (some (decide (a.2.2.1 = 0))) fun e => ifB e (d (a.2.2.1, decide (¬ a.1 = 1))) (d (a.2.2.1, false))
noncomputable def zvi := lk (α := HK) [(28, me [vi 5, vb 17] [] 0)]
theorem zag (nn : Nat) : qk 224 ⟨[(.sl jl)], I6, fun t => zbd nn t⟩ := mk1 Tryz.func224 nn 0 [(0, [13])] [] [] [] itn zvi rn gn (tc (zps nn) tn) (by kernel_rfl) fun t => by kernel_rfl
noncomputable def Ye (nn : Nat) (a0 : (Option qa)) (a1 : jz) : Option Int := ja (a0) fun a => J (σ := (Option qa) × Int × jz) (fun (b, c, d) => J (σ := (Option qa) × Bool × jz) (fun (f, g, h) => ifB g (some 11) (J (σ := Bool × jz) (fun (j, k) => ifB j (some 12) (J (fun (m : Bool) => ifB m (some 2) (some 0)) fun n => ja (some (decide (k.2.2.1 < 0))) fun o => ifB o (n true) (ifB (decide (2 < k.2.2.1)) (n true) (ifB (decide (k.2.2.2.1 < 0)) (n true) (n (decide (8 < k.2.2.2.1))))))) fun l => ja (some (!h.1)) fun p => ifB p (ja (f) fun q => ja (atL q.1.1 h.2.1) fun r => l (decide (¬ r.2.2.1 = 0), h)) (l (false, h)))) fun i => ja (some (decide (d.2.1 < 0))) fun s => ifB s (i (b, true, d)) (i (b, decide (c ≤ d.2.1), d))) fun e => ifB a1.1 (ja (a0) fun u => e (a0, (u.1.2.1.length : Int), a1)) (e (a0, (a.1.1.length : Int), a1))
noncomputable def zct := lk (α := HK) [(7, me [(0, .v (.ref qb)), vp 3 0, vi 5] [.box 110 [.v jy]] 1), (120, me [(0, .v (.ref qb)), vp 3 0, vb 20] [.box 110 [.v jy]] 1), (486, me [vp 3 0, vb 30] [.box 110 [.v jy]] 1), (1950, me [vb 47] [] 0)]
theorem zau (nn : Nat) : qk 225 ⟨[(.ref qb), jy], I6, fun t => Ye nn (t.1) (t.2)⟩ := mk1 Tryz.func225 nn 0 [(0, [23, 33, 50])] [] [] [] itn zct rn gn tn (by kernel_rfl) fun t => by kernel_rfl
noncomputable def zh5 (nn : Nat) (a0 : jd) (a1 : Int) : Option (List Int) := jr (σ := Int × (List jk) × Int × Int × (List Int)) (fun (a, b, c, d, e) f => ifB (decide (d < c)) (J (σ := Int × (List jk) × Int × Int × (List Int)) (fun (g, h, i, j, k) => ja (some (w64 (j + 1))) fun m => f (g, h, i, m, k)) fun l => ja (atL b d) fun n => ifB (decide (n.1 = a)) (ja (apO 8 e [d]) fun o => l (a, b, c, d, o)) (l (a, b, c, d, e))) (some e)) nn (a1, a0.2.2.1, (a0.2.2.1.length : Int), 0, [])
noncomputable def zxi := lk (α := HK) [(58, me [vi 1, vo 5 0, (9, .v (.sl ji)), vi 10, vi 11] [.row 3 I6] 1), (934, me [vi 1, vo 5 0, (9, .v (.sl ji)), vi 10, vi 11] [.row 3 I6] 1)]
theorem zqv (nn : Nat) : FFOk 226 ⟨[jc, I6], 3, I6, fun t => zh5 nn (t.1) (t.2)⟩ := mk2 Tryz.func226 nn 0 [(0, [24])] [(0, [(22, .told I6)])] [] [] itn zxi rn gn tn (by kernel_rfl) fun t => by kernel_rfl
theorem zq2 (nn : Nat) : qk 226 ⟨[jc, I6], L6, fun t => zh5 nn (t.1) (t.2)⟩ := (zqv nn).pure
noncomputable def za7 (nn : Nat) (a0 : jd) : Option jm := J (σ := jm × qa) (fun (a, b) => some b.2.1) fun c => J (σ := Bool × jm × qa) (fun (d, e, f) => ifB d (c (e, f)) (J (σ := Bool × jm × qa) (fun (h, i, j) => ifB h (c (i, j)) (J (σ := Bool × jm × qa) (fun (l, m, n) => ifB l (c (m, n)) (J (σ := Bool × jm × qa) (fun (p, q, r) => ifB p (c (q, r)) (J (σ := Bool × jm × qa) (fun (u, v, w) => ifB u (c (v, w)) (c (v, w))) fun x => J (σ := Bool × qa) (fun (y, z) => ifB y (x (true, q, (z.1, (11, (-1), 0, ()), ()))) (jr (σ := Int × Int × qa) (fun (b1, b2, b3) b4 => ifB (decide (b2 < b1)) (ja (zh5 nn b3.1 b2) fun b5 => ifB (decide ((b5.length : Int) = 0)) (x (true, q, (b3.1, (5, b2, 0, ()), ()))) (ja (some (w64 (b2 + 1))) fun b6 => b4 (b1, b6, b3))) (x (false, q, b3))) nn ((z.1.2.1.length : Int), 0, z))) fun b0 => ja (some (decide (r.1.2.2.2.1 < 0))) fun b7 => ifB b7 (b0 (true, r)) (b0 (decide ((r.1.2.1.length : Int) ≤ r.1.2.2.2.1), r)))) fun s => J (σ := Bool × qa) (fun (b8, b9) => s (b8, m, b9)) fun c0 => jr (σ := (List jk) × Int × Int × qa) (fun (c1, c2, c3, c4) c5 => ifB (decide (c3 < c2)) (ja (atL c1 c3) fun c6 => J (σ := Int × (List jk) × Int × Int × Bool × qa × jk) (fun (c7, c8, c9, d0, d1, d2, d3) => ifB d1 (s (true, m, (d2.1, (11, c7, 0, ()), ()))) (ifB (decide (16 < (d3.2.1.length : Int))) (s (true, m, (d2.1, (4, c7, 0, ()), ()))) (jr (σ := Int × (List jk) × Int × Int × (List jz) × Int × Int × qa) (fun (d5, d6, d7, d8, d9, e0, e1, e2) e3 => ifB (decide (e1 < e0)) (ja (atL d9 e1) fun e4 => ja (Ye nn (some e2) e4) fun e5 => ifB (decide (¬ e5 = 0)) (c0 (true, (e2.1, (e5, d5, w64 (e1 + 1), ()), ()))) (ja (some (w64 (e1 + 1))) fun e6 => e3 (d5, d6, d7, d8, d9, e0, e6, e2))) (ja (some (w64 (d8 + 1))) fun e7 => c5 (d6, d7, e7, e2))) nn (c7, c8, c9, d0, d3.2.1, (d3.2.1.length : Int), 0, d2)))) fun d4 => ja (some (decide (c6.1 < 0))) fun e8 => ifB e8 (d4 (c3, c1, c2, c3, true, c4, c6)) (d4 (c3, c1, c2, c3, decide ((c4.1.2.1.length : Int) ≤ c6.1), c4, c6))) (c0 (false, c4))) nn (n.1.2.2.1, (n.1.2.2.1.length : Int), 0, n))) fun o => ja (zri nn j.1.1) fun e9 => jr (σ := (List (List UInt8)) × Int × Int × qa × (List (List UInt8))) (fun (f0, f1, f2, f3, f4) f5 => ifB (decide (f2 < f1)) (ja (atL f0 f2) fun f6 => J (σ := (List UInt8) × (List (List UInt8)) × Int × Int × Bool × qa × (List (List UInt8))) (fun (f7, f8, f9, g0, g1, g2, g3) => ifB g1 (o (true, i, g2)) (ja (apO 16 g3 [f7]) fun g5 => ja (some (w64 (g0 + 1))) fun g6 => f5 (f8, f9, g6, g2, g5))) fun g4 => ja (zc1 nn f6) fun g7 => ifB (!g7) (g4 (f6, f0, f1, f2, true, (f3.1, (7, f2, 0, ()), ()), f4)) (ja (zcv nn f4 f6) fun g8 => ifB (decide (0 ≤ g8)) (g4 (f6, f0, f1, f2, true, (f3.1, (8, f2, 0, ()), ()), f4)) (g4 (f6, f0, f1, f2, false, f3, f4)))) (o (false, i, f3))) nn (j.1.2.1, (j.1.2.1.length : Int), 0, j, e9))) fun k => ja (Yw nn f.1.1) fun g9 => jr (σ := (List (List UInt8)) × (List qy) × Int × Int × qa) (fun (h0, h1, h2, h3, h4) h5 => ifB (decide (h3 < h2)) (ja (atL h1 h3) fun h6 => J (σ := (List (List UInt8)) × Int × (List qy) × Int × Int × Bool × qa × qy) (fun (h7, h8, h9, i0, i1, i2, i3, i4) => ifB i2 (k (true, e, i3)) (ja (zbd nn i4.2.1) fun i6 => ifB (decide (¬ i6 = 0)) (k (true, e, (i3.1, (9, h8, i6, ()), ()))) (J (σ := (List (List UInt8)) × Int × (List qy) × Int × Int × Bool × qa) (fun (i7, i8, i9, j0, j1, j2, j3) => ifB j2 (k (true, e, (j3.1, (1, i8, 0, ()), ()))) (ja (some (w64 (j1 + 1))) fun j5 => h5 (i7, i9, j0, j5, j3))) fun j4 => ja (some (decide (i4.2.2.1 < 0))) fun j6 => ifB j6 (j4 (h7, h8, h9, i0, i1, true, i3)) (j4 (h7, h8, h9, i0, i1, decide (3 < i4.2.2.1), i3))))) fun i5 => ja (zh8 h0 none (some h3)) fun j7 => ja (zc1 nn h6.1) fun j8 => ifB (!j8) (i5 (h0, h3, h1, h2, h3, true, (h4.1, (7, h3, 0, ()), ()), h6)) (ja (zcv nn j7 h6.1) fun j9 => ifB (decide (0 ≤ j9)) (i5 (h0, h3, h1, h2, h3, true, (h4.1, (8, h3, 0, ()), ()), h6)) (i5 (h0, h3, h1, h2, h3, false, h4, h6)))) (k (false, e, h4))) nn (g9, f.1.1, (f.1.1.length : Int), 0, f))) fun g => jr (σ := (List Int) × Int × Int × qa) (fun (k0, k1, k2, k3) k4 => ifB (decide (k2 < k1)) (ja (atL k0 k2) fun k5 => ifB (decide (0 < k5)) (g (true, (0, 0, 0, ()), (k3.1, (4, k2, 0, ()), ()))) (ja (some (w64 (k2 + 1))) fun k6 => k4 (k0, k1, k6, k3))) (jr (σ := (List (Arr 3 Int)) × Int × Int × qa) (fun (k7, k8, k9, l0) l1 => ifB (decide (k9 < k8)) (ja (atL k7 k9) fun l2 => J (σ := Int × (List (Arr 3 Int)) × Int × Int × Bool × qa) (fun (l3, l4, l5, l6, l7, l8) => ifB l7 (g (true, (0, 0, 0, ()), (l8.1, (2, l3, 0, ()), ()))) (ja (some (w64 (l6 + 1))) fun m0 => l1 (l4, l5, m0, l8))) fun l9 => ja (qn 3 1) fun m1 => ja (atL l2.l m1) fun m2 => ja (qn 3 0) fun m3 => ja (atL l2.l m3) fun m4 => ja (some (decide (m2 < m4))) fun m5 => ifB m5 (l9 (k9, k7, k8, k9, true, l0)) (ja (qn 3 1) fun m6 => ja (atL l2.l m6) fun m7 => ja (qn 3 2) fun m8 => ja (atL l2.l m8) fun m9 => l9 (k9, k7, k8, k9, decide (m9 < m7), l0))) (g (false, (0, 0, 0, ()), l0))) nn ([(⟨[1, k3.1.2.2.2.2.1, 4096], rfl⟩ : Arr 3 Int), (⟨[0, k3.1.2.2.2.2.2.1, 65536], rfl⟩ : Arr 3 Int), (⟨[1, k3.1.2.2.2.2.2.2.1, 65536], rfl⟩ : Arr 3 Int), (⟨[1, k3.1.2.2.2.2.2.2.2.1, 1048576], rfl⟩ : Arr 3 Int)], ([(⟨[1, k3.1.2.2.2.2.1, 4096], rfl⟩ : Arr 3 Int), (⟨[0, k3.1.2.2.2.2.2.1, 65536], rfl⟩ : Arr 3 Int), (⟨[1, k3.1.2.2.2.2.2.2.1, 65536], rfl⟩ : Arr 3 Int), (⟨[1, k3.1.2.2.2.2.2.2.2.1, 1048576], rfl⟩ : Arr 3 Int)].length : Int), 0, k3))) nn ([w64 ((a0.1.length : Int) - 64), w64 ((a0.2.1.length : Int) - 64), w64 ((a0.2.2.1.length : Int) - 256)], ([w64 ((a0.1.length : Int) - 64), w64 ((a0.2.1.length : Int) - 64), w64 ((a0.2.2.1.length : Int) - 256)].length : Int), 0, (a0, (0, 0, 0, ()), ()))
noncomputable def zqr := lk (α := HK) [(29, me [vp 2 0, vp 3 1] [.box 25 [.v jq], .box 241 [.v qb]] 2), (58, .unroll 24), (7474, me [vp 2 0, vp 3 1, vo 24 2, (25, .ci .i64 (5)), (26, .ci .i64 (0)), vb 32] [.box 25 [.v jq], .box 241 [.v qb], .rowx 243 1 [.agg [.fn 175 [.pt 1 0] []], .agg [.fn 176 [.pt 1 0] []], .agg [.fn 177 [.pt 1 0] []], .agg [.fn 178 [.pt 1 0] []], .agg [.fn 179 [.pt 1 0] []]]] 3), (15026, me [vp 2 0, vp 3 1, vo 24 2, (25, .ci .i64 (5)), (26, .ci .i64 (1)), vb 32] [.box 25 [.v jq], .box 241 [.v qb], .rowx 243 1 [.agg [.fn 175 [.pt 1 0] []], .agg [.fn 176 [.pt 1 0] []], .agg [.fn 177 [.pt 1 0] []], .agg [.fn 178 [.pt 1 0] []], .agg [.fn 179 [.pt 1 0] []]]] 3), (30130, me [vp 2 0, vp 3 1, vo 24 2, (25, .ci .i64 (5)), (26, .ci .i64 (2)), vb 32] [.box 25 [.v jq], .box 241 [.v qb], .rowx 243 1 [.agg [.fn 175 [.pt 1 0] []], .agg [.fn 176 [.pt 1 0] []], .agg [.fn 177 [.pt 1 0] []], .agg [.fn 178 [.pt 1 0] []], .agg [.fn 179 [.pt 1 0] []]]] 3), (60338, me [vp 2 0, vp 3 1, vo 24 2, (25, .ci .i64 (5)), (26, .ci .i64 (3)), vb 32] [.box 25 [.v jq], .box 241 [.v qb], .rowx 243 1 [.agg [.fn 175 [.pt 1 0] []], .agg [.fn 176 [.pt 1 0] []], .agg [.fn 177 [.pt 1 0] []], .agg [.fn 178 [.pt 1 0] []], .agg [.fn 179 [.pt 1 0] []]]] 3), (120754, me [vp 2 0, vp 3 1, vo 24 2, (25, .ci .i64 (5)), (26, .ci .i64 (4)), vb 32] [.box 25 [.v jq], .box 241 [.v qb], .rowx 243 1 [.agg [.fn 175 [.pt 1 0] []], .agg [.fn 176 [.pt 1 0] []], .agg [.fn 177 [.pt 1 0] []], .agg [.fn 178 [.pt 1 0] []], .agg [.fn 179 [.pt 1 0] []]]] 3)]
noncomputable def zjw := lk (α := HK) [(26, me [vp 0 0, vl 28, vi 29, vi 30] [.box 241 [.v qb]] 1), (58, me [vp 0 0, (65, .v (.sl (.arr 3 I6))), vi 66, vi 67] [.box 241 [.v qb]] 1), (7474, me [vp 0 0, vi 5, (65, .v (.sl (.arr 3 I6))), vi 66, vi 67, vb 83] [.box 241 [.v qb]] 1)]
noncomputable def zi8 := lk (α := HK) [(58, me [vp 0 0, (3, .v (.sl .str)), (17, .v (.sl qq)), vi 18, vi 19] [.box 241 [.v qb]] 1), (14948, me [vp 0 0, (3, .v (.sl .str)), vi 4, vp 5 1, (17, .v (.sl qq)), vi 18, vi 19, vb 31] [.box 241 [.v qb], .box 100 [.v qq]] 2), (29902, me [vp 0 0, (3, .v (.sl .str)), vi 4, (17, .v (.sl qq)), vi 18, vi 19, vb 48] [.box 241 [.v qb]] 1)]
noncomputable def zhj := lk (α := HK) [(58, me [vp 0 0, vo 3 1, (16, .v (.sl .str)), vi 17, vi 18] [.box 241 [.v qb], .row 9 .str] 2), (14948, me [vp 0 0, vo 3 1, (5, .v .str), (16, .v (.sl .str)), vi 17, vi 18, vb 27] [.box 241 [.v qb], .row 9 .str] 2)]
noncomputable def zhe := lk (α := HK) [(109, me [vb 3] [.box 241 [.v qb]] 1), (218, me [vp 0 0, (3, .cb false), (13, .v (.sl ji)), vi 14, vi 15] [.box 241 [.v qb]] 1), (111816, me [vp 0 0, (3, .cb false), vi 4, vp 5 1, (13, .v (.sl ji)), vi 14, vi 15, vb 20] [.box 241 [.v qb], .box 104 [.v ji]] 2), (111822, me [vp 0 0, (3, .cb false), vi 4, (13, .v (.sl ji)), vi 14, vi 15, (47, .v (.sl jy)), vi 48, vi 49] [.box 241 [.v qb]] 1)]
noncomputable def zh4 := lk (α := HK) [(12, me [vp 0 0, vb 23] [.box 241 [.v qb]] 1), (58, me [vp 0 0, vi 31, vi 32] [.box 241 [.v qb]] 1)]
theorem zca (nn : Nat) : qk 133 ⟨[jc], jq, fun t => za7 nn t⟩ := mk1 Tryz.func133 nn 9 [(1, [40, 76, 87]), (4, [43, 52]), (10, [32]), (14, [23, 65, 66]), (18, [9, 46])] [(0, [(24, .ownx)]), (1, [(28, .told I6), (65, .told (.arr 3 I6))]), (10, [(30, .told .str)])] [] [10000069] (itc 3220175 Tryz.func175 zjw 1 [] (itc 10003220221 Tryz.func221 h0 2 [] (itc 10007060221 Tryz.func221 h0 3 [] (itc 3220176 Tryz.func176 zi8 4 [] (itc 40003270223 Tryz.func223 h0 5 [] (itc 50001300221 Tryz.func221 h0 6 [] (itc 50002580221 Tryz.func221 h0 7 [] (itc 40005790221 Tryz.func221 h0 8 [] (itc 40007060221 Tryz.func221 h0 9 [] (itc 3220177 Tryz.func177 zhj 10 [] (itc 100003240223 Tryz.func223 h0 11 [] (itc 110001300221 Tryz.func221 h0 12 [] (itc 110002580221 Tryz.func221 h0 13 [] (itc 3220178 Tryz.func178 zhe 14 [] (itc 140003860221 Tryz.func221 h0 15 [] (itc 140005140221 Tryz.func221 h0 16 [] (itc 140009010221 Tryz.func221 h0 17 [] (itc 3220179 Tryz.func179 zh4 18 [] (itc 180001290221 Tryz.func221 h0 19 [] (itc 180004500221 Tryz.func221 h0 20 [] itn (by kernel_rfl)) (by kernel_rfl)) (by kernel_rfl)) (by kernel_rfl)) (by kernel_rfl)) (by kernel_rfl)) (by kernel_rfl)) (by kernel_rfl)) (by kernel_rfl)) (by kernel_rfl)) (by kernel_rfl)) (by kernel_rfl)) (by kernel_rfl)) (by kernel_rfl)) (by kernel_rfl)) (by kernel_rfl)) (by kernel_rfl)) (by kernel_rfl)) (by kernel_rfl)) (by kernel_rfl)) zqr rn (gc (zb8 nn) gn) (tc (zjl nn) (tc (zag nn) (tc (zau nn) (tc (zq2 nn) (tc (zmr nn) (tc (zku nn) tn)))))) (by kernel_rfl) fun t => by kernel_rfl
noncomputable def zaj (nn : Nat) (a0 : (Option y2)) : Option jm := ja (a0) fun a => ja (za7 nn a.1) fun b => some b
theorem zd3 (nn : Nat) : qk 132 ⟨[(.ref yz)], jq, fun t => zaj nn t⟩ := mk1 Tryz.func132 nn 0 [] [] [] [] itn h0 rn gn (tc (zca nn) tn) (by kernel_rfl) fun t => by kernel_rfl
noncomputable def zg (nn : Nat) (a0 : (List jh)) : Option (List jh) := ja (zqu a0) fun a => ifB a (some []) (ja (apO 96 [] a0) fun b => some b)
theorem y8 (nn : Nat) : FFOk 295 ⟨[(.sl jg)], 285, jg, fun t => zg nn t⟩ := mk2 Tryz.func295 nn 0 [] [(0, [(5, .own jg)])] [] [] itn h0 rn gn tn (by kernel_rfl) fun t => by kernel_rfl
noncomputable def vw (nn : Nat) (a0 : List jh) : Option (List jh) := apO 96 [] a0
noncomputable abbrev zl (nn : Nat) : FF := ⟨[(.sl jg)], 285, jg, fun t => vw nn t⟩
set_option maxHeartbeats 2000000 in
theorem y9 (nn : Nat) : FFOk 295 (zl nn) := by
  have hu : Tryz.prog.underlying 311 = some (.slice 285) := by kernel_rfl
  have q22 : ∀ (w : World) (a : Option Addr) (n c n' c' : Nat), (binOp .eql 311 (.slice a n c) (.slice none n' c')).run Tryz.prog w = .ok (.bool a.isNone) w := fun w a n c n' c' => Lib.run_eql_slice_nil w _ _ a n c n' c' hu
  refine zbh (y8 nn) (fun x r => zpj _) (fun c w => ?_) fun a c w => ?_
  · go_enter Tryz.func295, Tryz.ntmps295
    go_wp2
    go_ret
    exact ⟨rfl, rfl⟩
  · have hs0 : (q6 Tryz.prog 311).map (fun r => (r.1, r.2.1, r.2.2.1)) = some (285, 12, 96) := by kernel_rfl
    obtain ⟨⟨e', k', b', z⟩, hse⟩ : ∃ r, q6 Tryz.prog 311 = some r := by
      cases h : q6 Tryz.prog 311 with
      | none => rw [h] at hs0; cases hs0
      | some r => exact ⟨r, rfl⟩
    rw [hse] at hs0
    simp only [wcd, wco, wdl] at hs0
    obtain ⟨rfl, rfl, rfl⟩ := hs0
    obtain ⟨i, hu2, hi, hz, hsz, hby, hzs, hpos⟩ := yo hse
    clear hse
    go_enter Tryz.func295, Tryz.ntmps295
    go_wp2_with (at_builtin; refine wpList_append_own _ rfl _ _ 311 rfl w.heap.size 285 i z 12 96 hu hi hz hsz hby hzs hpos _ _ _ rfl (World.ownsRow_made w #[] 0 (wb7 _) (wdq _) rfl) a 0 c [] rfl rfl (by intro j u hj; simp at hj) (by intro u hu; cases hu) (by unfold maxLen; omega) (by omega) (by simp) ?_)
    intro v' w1 hown hgrow hnil
    go_wp2
    go_ret
    refine ⟨v', rfl, hown, ?_⟩
    exact ((Below.refl _ w).alloc (wb7 _) _).grown hgrow (by simp) (by intro k hk; simp [Value.ownBlock] at hk; omega)
noncomputable abbrev zo := vw
noncomputable def Je (nn : Nat) (a0 : (List (Arr 4 Int))) : Option (Arr 4 Int) := jr (σ := (List (Arr 4 Int)) × Int × Int × (Arr 4 Int) × (Arr 4 Int)) (fun (a, b, c, d, e) f => ifB (decide (c < b)) (ja (atL a c) fun g => jr (σ := (List (Arr 4 Int)) × Int × Int × Int × (Arr 4 Int) × (Arr 4 Int) × (Arr 4 Int)) (fun (h, i, j, k, l, m, n) o => ifB (decide (k < 4)) (ja (qn 4 k) fun p => ja (atL m.l p) fun q => ja (qn 4 k) fun r => ja (atL n.l r) fun s => ja (qn 4 k) fun u => ja (zu0 m u (orI .u64 q s)) fun v => ja (some (w64 (k + 1))) fun w => o (h, i, j, w, l, v, n)) (ja (some (w64 (j + 1))) fun x => f (h, i, x, l, m))) nn (a, b, c, 0, d, e, g)) (some e)) nn (a0, (a0.length : Int), 0, ⟨replicate 4 0, wb4⟩, ⟨replicate 4 0, wb4⟩)
noncomputable def zue := lk (α := HK) [(58, me [vp 2 0, vp 3 1, (7, .v (.sl (.arr 4 (.int .u64)))), vi 8, vi 9] [.box 140 [.v (.arr 4 (.int .u64))], .box 140 [.v (.arr 4 (.int .u64))]] 2), (14950, me [vp 2 0, vp 3 1, vp 5 2, (7, .v (.sl (.arr 4 (.int .u64)))), vi 8, vi 9, vi 13] [.box 140 [.v (.arr 4 (.int .u64))], .box 140 [.v (.arr 4 (.int .u64))], .box 140 [.v (.arr 4 (.int .u64))]] 3)]
theorem zem (nn : Nat) : qk 296 ⟨[(.sl (.arr 4 (.int .u64)))], (.arr 4 (.int .u64)), fun t => Je nn t⟩ := mk1 Tryz.func296 nn 0 [(0, [24, 25])] [] [] [] itn zue rn gn tn (by kernel_rfl) fun t => by kernel_rfl
noncomputable def zfi (nn : Nat) (a0 : jh) (a1 : jh) : Option jh := J (σ := Bool × jh × jh × jh) (fun (a, b, c, d) => ifB a (some (false, 0, 0, false, ⟨replicate 4 0, wb4⟩, ⟨replicate 4 0, wb4⟩, ())) (J (σ := jh × jh × jh × jh) (fun (f, g, h, i) => J (σ := jh × jh) (fun (k, l) => some l) fun m => ifB (decide (f.2.1 = 0)) (ja (Je nn [f.2.2.2.2.1, g.2.2.2.2.1]) fun n => m (h, (i.1, i.2.1, i.2.2.1, i.2.2.2.1, n, i.2.2.2.2.2.1, ()))) (m (h, i))) fun j => ifB b.2.2.2.1 (ja (Je nn [b.2.2.2.2.2.1, c.2.2.2.2.2.1]) fun o => j (b, c, d, (true, min (w64 (b.2.1 + c.2.1)) 1099511627776, min (w64 (b.2.2.1 + c.2.2.1)) 1099511627776, true, b.2.2.2.2.1, o, ()))) (ja (Je nn [b.2.2.2.2.2.1, c.2.2.2.2.2.1]) fun p => j (b, c, d, (true, min (w64 (b.2.1 + c.2.1)) 1099511627776, min (w64 (b.2.2.1 + c.2.2.1)) 1099511627776, c.2.2.2.1, b.2.2.2.2.1, p, ()))))) fun e => ja (some (!a0.1)) fun q => ifB q (e (true, a0, a1, (false, 0, 0, false, ⟨replicate 4 0, wb4⟩, ⟨replicate 4 0, wb4⟩, ()))) (e (!a1.1, a0, a1, (false, 0, 0, false, ⟨replicate 4 0, wb4⟩, ⟨replicate 4 0, wb4⟩, ())))
noncomputable def zpv := lk (α := HK) [(12, me [vp 2 0, vp 3 1, vp 4 2, vb 13] [.box 285 [.v jg], .box 285 [.v jg], .box 285 [.v jg]] 3), (14, me [vp 2 0, vp 3 1, vp 4 2, vp 5 3] [.box 285 [.v jg], .box 285 [.v jg], .box 285 [.v jg], .box 285 [.v jg]] 4), (15, me [vp 4 0, vp 5 1] [.box 285 [.v jg], .box 285 [.v jg]] 2)]
theorem zjh (nn : Nat) : qk 274 ⟨[jg, jg], jg, fun t => zfi nn (t.1) (t.2)⟩ := mk1 Tryz.func274 nn 0 [(0, [8])] [(0, [(39, .told (.arr 4 (.int .u64))), (49, .told (.arr 4 (.int .u64)))])] [] [] itn zpv rn gn (tc (zem nn) tn) (by kernel_rfl) fun t => by kernel_rfl
noncomputable def Yu (nn : Nat) (a0 : jh) (a1 : jh) : Option jh := ifB (!a0.1) (some a1) (ifB (!a1.1) (some a0) (J (fun (a : jh) => some a) fun b => ifB a0.2.2.2.1 (ja (Je nn [a0.2.2.2.2.1, a1.2.2.2.2.1]) fun c => ja (Je nn [a0.2.2.2.2.2.1, a1.2.2.2.2.2.1]) fun d => b (true, min a0.2.1 a1.2.1, max a0.2.2.1 a1.2.2.1, true, c, d, ())) (ja (Je nn [a0.2.2.2.2.1, a1.2.2.2.2.1]) fun e => ja (Je nn [a0.2.2.2.2.2.1, a1.2.2.2.2.2.1]) fun f => b (true, min a0.2.1 a1.2.1, max a0.2.2.1 a1.2.2.1, a1.2.2.2.1, e, f, ()))))
noncomputable def zp6 := lk (α := HK) [(14, me [vp 4 0] [.box 285 [.v jg]] 1)]
theorem zjn (nn : Nat) : qk 275 ⟨[jg, jg], jg, fun t => Yu nn (t.1) (t.2)⟩ := mk1 Tryz.func275 nn 0 [] [(0, [(35, .told (.arr 4 (.int .u64))), (41, .told (.arr 4 (.int .u64)))])] [] [] itn zp6 rn gn (tc (zem nn) tn) (by kernel_rfl) fun t => by kernel_rfl
noncomputable def zch (nn : Nat) (a0 : js) (a1 : (List jh)) : Option jh := ifB (decide (a0.1 = 1)) (ifB (a0.2.1.l == (⟨replicate 4 0, wb4⟩ : Arr 4 Int).l) (some (false, 0, 0, false, ⟨replicate 4 0, wb4⟩, ⟨replicate 4 0, wb4⟩, ())) (some (true, 1, 1, false, a0.2.1, a0.2.1, ()))) (ifB (decide (a0.1 = 3)) (ja (atL a1 0) fun a => ja (atL a1 1) fun b => ja (zfi nn a b) fun c => some c) (ifB (decide (a0.1 = 4)) (ja (atL a1 0) fun d => ja (atL a1 1) fun e => ja (Yu nn d e) fun f => some f) (ifB (decide (a0.1 = 7)) (ja (atL a1 0) fun g => ja (Yu nn (true, 0, 0, false, ⟨replicate 4 0, wb4⟩, ⟨replicate 4 0, wb4⟩, ()) g) fun h => some h) (J (σ := (List jh) × Bool × js × jh × jh) (fun (i, j, k, l, m) => ifB j (ja (atL i 0) fun o => J (σ := js × jh × jh × jh) (fun (p, q, r, s) => J (σ := jh × jh) (fun (v, w) => some w) fun x => ifB (decide (p.1 = 5)) (ja (Yu nn r s) fun y => x (q, y)) (x (q, s))) fun u => ifB o.2.2.2.1 (u (k, l, m, (o.1, o.2.1, o.2.2.1, true, o.2.2.2.2.1, o.2.2.2.2.2.1, ()))) (u (k, l, m, (o.1, o.2.1, o.2.2.1, decide (0 < o.2.2.1), o.2.2.2.2.1, o.2.2.2.2.2.1, ())))) (some m)) fun n => ja (some (decide (a0.1 = 6))) fun z => ifB z (n (a1, z, a0, (false, 0, 0, false, ⟨replicate 4 0, wb4⟩, ⟨replicate 4 0, wb4⟩, ()), (true, 0, 0, false, ⟨replicate 4 0, wb4⟩, ⟨replicate 4 0, wb4⟩, ()))) (ja (some (decide (a0.1 = 5))) fun b0 => n (a1, b0, a0, (false, 0, 0, false, ⟨replicate 4 0, wb4⟩, ⟨replicate 4 0, wb4⟩, ()), (true, 0, 0, false, ⟨replicate 4 0, wb4⟩, ⟨replicate 4 0, wb4⟩, ())))))))
noncomputable def zke := lk (α := HK) [(15103, me [(1, .v (.sl jg)), vp 2 0, vp 4 1, vp 5 2, vb 47] [.box 142 [.v jl], .box 285 [.v jg], .box 285 [.v jg]] 3), (241658, me [vp 2 0, vp 4 1, vp 5 2, vp 6 3] [.box 142 [.v jl], .box 285 [.v jg], .box 285 [.v jg], .box 285 [.v jg]] 4), (241659, me [vp 4 0, vp 6 1] [.box 285 [.v jg], .box 285 [.v jg]] 2)]
theorem ze3 (nn : Nat) : qk 273 ⟨[jl, (.sl jg)], jg, fun t => zch nn (t.1) (t.2)⟩ := mk1 Tryz.func273 nn 0 [(0, [48, 49])] [] [] [] itn zke rn gn (tc (zjh nn) (tc (zjn nn) tn)) (by kernel_rfl) fun t => by kernel_rfl
noncomputable def zeh (nn : Nat) (a0 : (List js)) : Option jh := J (σ := jh × jh) (fun (a, b) => some b) fun c => ja (zbd nn a0) fun d => ifB (decide (¬ d = 0)) (c ((false, 0, 0, false, ⟨replicate 4 0, wb4⟩, ⟨replicate 4 0, wb4⟩, ()), (false, 0, 0, false, ⟨replicate 4 0, wb4⟩, ⟨replicate 4 0, wb4⟩, ()))) (jr (σ := (List js) × Int × Int × jh × (List jh)) (fun (e, f, g, h, i) j => ifB (decide (g < f)) (ja (atL e g) fun k => J (σ := Int × (List js) × Int × Int × jh × (List jh) × js) (fun (l, m, n, o, p, q, r) => ja (some (w64 ((q.length : Int) - l))) fun u => ja (zu2 q u) fun v => ja (zo nn (q.drop v)) fun w => ja (zch nn r w) fun x => ja (zcp q u) fun y => ja (apO 96 y [x]) fun z => ja (some (w64 (o + 1))) fun b0 => j (m, n, b0, p, z)) fun s => J (σ := Int × (List js) × Int × Int × Int × Bool × jh × (List jh) × js) (fun (b1, b2, b3, b4, b5, b6, b7, b8, b9) => ifB b6 (s (2, b2, b3, b4, b7, b8, b9)) (J (σ := Int × (List js) × Int × Int × Bool × jh × (List jh) × js) (fun (c1, c2, c3, c4, c5, c6, c7, c8) => ifB c5 (s (1, c2, c3, c4, c6, c7, c8)) (s (c1, c2, c3, c4, c6, c7, c8))) fun c9 => ja (some (decide (b5 = 5))) fun d0 => ifB d0 (c9 (b1, b2, b3, b4, d0, b7, b8, b9)) (ja (some (decide (b5 = 6))) fun d1 => ifB d1 (c9 (b1, b2, b3, b4, d1, b7, b8, b9)) (ja (some (decide (b5 = 7))) fun d2 => c9 (b1, b2, b3, b4, d2, b7, b8, b9))))) fun c0 => ja (some (decide (k.1 = 3))) fun d3 => ifB d3 (c0 (0, e, f, g, k.1, d3, h, i, k)) (ja (some (decide (k.1 = 4))) fun d4 => c0 (0, e, f, g, k.1, d4, h, i, k))) (ja (qn i.length 0) fun d5 => ja (atL i d5) fun d6 => c ((false, 0, 0, false, ⟨replicate 4 0, wb4⟩, ⟨replicate 4 0, wb4⟩, ()), d6))) nn (a0, (a0.length : Int), 0, (false, 0, 0, false, ⟨replicate 4 0, wb4⟩, ⟨replicate 4 0, wb4⟩, ()), []))
noncomputable def znr := lk (α := HK) [(6, me [vp 2 0, vp 3 1] [.box 285 [.v jg], .box 285 [.v jg]] 2)]
noncomputable def zg0 := lk (α := HK) [(250, me [(1, .fn 273 [] []), vp 4 0, vo 7 1, (17, .v (.sl jl)), vi 18, vi 19] [.box 285 [.v jg], .row 285 jg] 2), (128205, me [(1, .fn 273 [] []), vp 4 0, vo 7 1, vp 9 2, vi 10, (17, .v (.sl jl)), vi 18, vi 19] [.box 285 [.v jg], .row 285 jg, .box 142 [.v jl]] 3), (256410, me [(1, .fn 273 [] []), vp 4 0, vo 7 1, vp 9 2, vi 10, (17, .v (.sl jl)), vi 18, vi 19, vi 24, vb 25] [.box 285 [.v jg], .row 285 jg, .box 142 [.v jl]] 3), (1025643, me [(1, .fn 273 [] []), vp 4 0, vo 7 1, vp 9 2, vi 10, (17, .v (.sl jl)), vi 18, vi 19, vb 28] [.box 285 [.v jg], .row 285 jg, .box 142 [.v jl]] 3)]
theorem zhm (nn : Nat) : qk 227 ⟨[(.sl jl)], jg, fun t => zeh nn t⟩ := mk1 Tryz.func227 nn 9 [(1, [26, 27, 29, 30, 31, 35, 49])] [(1, [(47, .told jg)])] [] [1001157] (itc 650272 Tryz.func272 zg0 1 [] itn (by kernel_rfl)) znr rn (gc (y9 nn) gn) (tc (zag nn) (tc (ze3 nn) tn)) (by kernel_rfl) fun t => by kernel_rfl
noncomputable def zac (nn : Nat) (a0 : (List js)) : Option Int := ja (zeh nn a0) fun a => ifB (!a.1) (some (-1)) (some a.2.1)
theorem zcl (nn : Nat) : qk 180 ⟨[(.sl jl)], I6, fun t => zac nn t⟩ := mk1 Tryz.func180 nn 0 [] [] [] [] itn h0 rn gn (tc (zhm nn) tn) (by kernel_rfl) fun t => by kernel_rfl
noncomputable def Zu (nn : Nat) (a0 : (List js)) : Option Bool := ja (zac nn a0) fun a => some (decide (a = 0))
theorem zdi (nn : Nat) : qk 137 ⟨[(.sl jl)], .bool, fun t => Zu nn t⟩ := mk1 Tryz.func137 nn 0 [] [] [] [] itn h0 rn gn (tc (zcl nn) tn) (by kernel_rfl) fun t => by kernel_rfl
noncomputable def za1 (nn : Nat) (a0 : (Option y2)) : Option jm := J (fun (a : jm) => some a) fun b => ja (a0) fun c => jr (σ := Int × Int × Int × Int × (Option y2) × jm) (fun (d, e, f, g, h, i) j => ifB (decide (g < f)) (ja (h) fun k => ja (atL k.1.1 g) fun l => ja (Zu nn l.2.1) fun m => ifB (!(!m)) (b (d, g, e, ())) (ja (some (w64 (g + 1))) fun n => j (d, e, f, n, h, i))) (b (0, 0, 0, ()))) nn (10, 0, (c.1.1.length : Int), 0, a0, (0, 0, 0, ()))
noncomputable def zhc := lk (α := HK) [(6, me [vp 2 0] [.box 25 [.v jq]] 1)]
noncomputable def zd6 := lk (α := HK) [(26, me [vi 1, vi 2, (3, .fn 136 [] [.pt 0 0]), vp 8 1, vi 10, vi 11] [.box 173 [.v (.ref yz)], .box 25 [.v jq]] 2)]
theorem zd5 (nn : Nat) : qk 134 ⟨[(.ref yz)], jq, fun t => za1 nn t⟩ := mk1 Tryz.func134 nn 9 [(1, [22])] [] [] [] (itc 710135 Tryz.func135 zd6 1 [] (itc 10002580136 Tryz.func136 h0 2 [] itn (by kernel_rfl)) (by kernel_rfl)) zhc rn gn (tc (zdi nn) tn) (by kernel_rfl) fun t => by kernel_rfl
noncomputable def yi (nn : Nat) (a0 : jd) : Option Bool := ja (za7 nn a0) fun a => some (decide (a.1 = 0))
theorem vy (nn : Nat) : qk 148 ⟨[jc], .bool, fun t => yi nn t⟩ := mk1 Tryz.func148 nn 0 [] [] [] [] itn h0 rn gn (tc (zca nn) tn) (by kernel_rfl) fun t => by kernel_rfl
noncomputable def Qt (nn : Nat) (a0 : jd) : Option (List Bool) := ja (yi nn a0) fun a => ifB (!a) (some []) (ja (some (a0.2.1.length : Int)) fun b => ja (mkO 1 b) fun c => ja (qn (replicate c false).length a0.2.2.2.1) fun d => ja (zx (replicate c false) d true) fun e => jr (σ := (List jk) × Bool × (List Bool)) (fun (f, g, h) i => ifB g (jr (σ := (List jk) × Bool × (List jk) × Int × Int × (List Bool)) (fun (j, k, l, m, n, o) p => ifB (decide (n < m)) (ja (atL l n) fun q => J (σ := (List jk) × Bool × (List jk) × Int × Int × (List Bool)) (fun (r, s, u, v, w, x) => ja (some (w64 (w + 1))) fun z => p (r, s, u, v, z, x)) fun y => jr (σ := Bool × (List jz) × Int × Int × (List Bool) × jk) (fun (b0, b1, b2, b3, b4, b5) b6 => ifB (decide (b3 < b2)) (J (σ := Bool × (List jz) × Int × Int × (List Bool) × jk) (fun (b7, b8, b9, c0, c1, c2) => ja (some (w64 (c0 + 1))) fun c4 => b6 (b7, b8, b9, c4, c1, c2)) fun c3 => ja (atL b1 b3) fun c5 => J (σ := Bool × (List jz) × Int × Int × Bool × (List Bool) × jk × jz) (fun (c6, c7, c8, c9, d0, d1, d2, d3) => ifB d0 (ja (qn d1.length d3.2.1) fun d5 => ja (zx d1 d5 true) fun d6 => c3 (true, c7, c8, c9, d6, d2)) (c3 (c6, c7, c8, c9, d1, d2))) fun d4 => ja (qn b4.length b5.1) fun d7 => ja (atL b4 d7) fun d8 => ifB d8 (ifB c5.1 (ja (qn b4.length c5.2.1) fun d9 => ja (atL b4 d9) fun e0 => d4 (b0, b1, b2, b3, !e0, b4, b5, c5)) (d4 (b0, b1, b2, b3, false, b4, b5, c5))) (d4 (b0, b1, b2, b3, false, b4, b5, c5))) (ifB b0 (y (j, true, l, m, n, b4)) (y (j, k, l, m, n, b4)))) nn (false, q.2.1, (q.2.1.length : Int), 0, o, q)) (i (j, k, o))) nn (f, false, f, (f.length : Int), 0, h)) (some h)) nn (a0.2.2.1, true, e))
noncomputable def zfs := lk (α := HK) [(6, me [(0, .v (.sl ji)), (1, .fn 182 [] [.pt 0 0]), vb 4] [.box 66 [.own 1], .row 4 .bool] 2), (406, me [(0, .v (.sl ji)), (1, .fn 182 [] [.pt 0 0]), vb 4, (8, .v (.sl ji)), vi 9, vi 10] [.box 66 [.own 1], .row 4 .bool] 2), (26009, me [(0, .v (.sl ji)), (1, .fn 182 [] [.pt 0 0]), vb 4, (8, .v (.sl ji)), vi 9, vi 10] [.box 66 [.own 1], .row 4 .bool] 2)]
noncomputable def zf5 := lk (α := HK) [(58, me [vp 1 0, vp 2 2, vb 4, (8, .v (.sl jy)), vi 9, vi 10] [.box 66 [.own 1], .row 4 .bool, .box 104 [.v ji]] 3), (934, me [vp 1 0, vp 2 2, vb 4, (8, .v (.sl jy)), vi 9, vi 10] [.box 66 [.own 1], .row 4 .bool, .box 104 [.v ji]] 3), (7474, me [vp 1 0, vp 2 2, vb 4, vp 6 3, (8, .v (.sl jy)), vi 9, vi 10, vb 30] [.box 66 [.own 1], .row 4 .bool, .box 104 [.v ji], .box 110 [.v jy]] 4)]
theorem zfh (nn : Nat) : FFOk 139 ⟨[jc], 4, .bool, fun t => Qt nn t⟩ := mk2 Tryz.func139 nn 9 [(0, [9]), (1, [20]), (2, [35])] [] [] [] (itc 3230181 Tryz.func181 zfs 1 [] (itc 10003860182 Tryz.func182 zf5 2 [] itn (by kernel_rfl)) (by kernel_rfl)) h0 rn gn (tc (vy nn) tn) (by kernel_rfl) fun t => by kernel_rfl
theorem Zx (nn : Nat) : qk 139 ⟨[jc], LB, fun t => Qt nn t⟩ := (zfh nn).pure
noncomputable def zam (nn : Nat) (a0 : (Option y2)) : Option jm := ja (a0) fun a => ja (Qt nn a.1) fun b => J (fun (c : jm) => some c) fun d => jr (σ := Int × Int × Int × Int × (List Bool) × jm) (fun (e, f, g, h, i, j) k => ifB (decide (h < g)) (ja (atL i h) fun l => ifB (!l) (d (e, h, f, ())) (ja (some (w64 (h + 1))) fun m => k (e, f, g, m, i, j))) (d (0, 0, 0, ()))) nn (13, 0, (b.length : Int), 0, b, (0, 0, 0, ()))
noncomputable def zg8 := lk (α := HK) [(14, me [vp 2 0] [.box 25 [.v jq]] 1)]
noncomputable def zd1 := lk (α := HK) [(26, me [vi 1, vi 2, (3, .fn 140 [] [.pt 0 0]), vp 8 1, vi 10, vi 11] [.box 66 [.v LB], .box 25 [.v jq]] 2)]
theorem zd0 (nn : Nat) : qk 138 ⟨[(.ref yz)], jq, fun t => zam nn t⟩ := mk1 Tryz.func138 nn 9 [(1, [22])] [] [] [] (itc 1310135 Tryz.func135 zd1 1 [] (itc 10002580140 Tryz.func140 h0 2 [] itn (by kernel_rfl)) (by kernel_rfl)) zg8 rn gn (tc (Zx nn) tn) (by kernel_rfl) fun t => by kernel_rfl
noncomputable def zdg (nn : Nat) (a0 : jz) (a1 : (List Bool)) : Option Bool := J (fun (a : Bool) => some a) fun b => ja (some (!a0.1)) fun c => ifB c (b true) (ja (atL a1 a0.2.1) fun d => b d)
noncomputable def zmw := lk (α := HK) [(6, me [vb 4] [] 0)]
theorem zfq (nn : Nat) : qk 184 ⟨[jy, LB], .bool, fun t => zdg nn (t.1) (t.2)⟩ := mk1 Tryz.func184 nn 0 [(0, [7])] [] [] [] itn zmw rn gn tn (by kernel_rfl) fun t => by kernel_rfl
noncomputable def za5 (nn : Nat) (a0 : jd) : Option (List Bool) := J (fun (a : (List Bool)) => some a) fun b => ja (yi nn a0) fun c => ifB (!c) (b []) (ja (some (a0.2.1.length : Int)) fun d => ja (mkO 1 d) fun e => jr (σ := (List jk) × Bool × (List Bool)) (fun (f, g, h) i => ifB g (jr (σ := (List jk) × Bool × (List jk) × Int × Int × (List Bool)) (fun (j, k, l, m, n, o) p => ifB (decide (n < m)) (ja (atL l n) fun q => J (σ := (List jk) × Bool × (List jk) × Int × Int × (List Bool)) (fun (r, s, u, v, w, x) => ja (some (w64 (w + 1))) fun z => p (r, s, u, v, z, x)) fun y => ja (qn o.length q.1) fun b0 => ja (atL o b0) fun b1 => ifB b1 (y (j, k, l, m, n, o)) (jr (σ := (List jz) × Int × Int × (List Bool) × jk) (fun (b2, b3, b4, b5, b6) b7 => ifB (decide (b4 < b3)) (ja (atL b2 b4) fun b8 => ja (zdg nn b8 b5) fun b9 => ifB (!b9) (y (j, k, l, m, n, b5)) (ja (some (w64 (b4 + 1))) fun c0 => b7 (b2, b3, c0, b5, b6))) (ja (qn b5.length b6.1) fun c1 => ja (zx b5 c1 true) fun c2 => y (j, true, l, m, n, c2))) nn (q.2.1, (q.2.1.length : Int), 0, o, q))) (i (j, k, o))) nn (f, false, f, (f.length : Int), 0, h)) (b h)) nn (a0.2.2.1, true, (replicate e false)))
noncomputable def zqs := lk (α := HK) [(6, me [vo 2 0] [.row 4 .bool] 1)]
noncomputable def zjm := lk (α := HK) [(6, me [(0, .v (.sl ji)), (1, .fn 228 [] [.pt 0 0, .pt 2 0]), vb 4] [.box 66 [.own 1], .row 4 .bool, .box 249 [.fn 184 [] []]] 3), (406, me [(0, .v (.sl ji)), (1, .fn 228 [] [.pt 0 0, .pt 2 0]), vb 4, (8, .v (.sl ji)), vi 9, vi 10] [.box 66 [.own 1], .row 4 .bool, .box 249 [.fn 184 [] []]] 3), (26009, me [(0, .v (.sl ji)), (1, .fn 228 [] [.pt 0 0, .pt 2 0]), vb 4, (8, .v (.sl ji)), vi 9, vi 10] [.box 66 [.own 1], .row 4 .bool, .box 249 [.fn 184 [] []]] 3)]
noncomputable def zjf := lk (α := HK) [(58, me [vp 1 0, vp 2 2, vp 3 3, (13, .v (.sl jy)), vi 14, vi 15] [.box 66 [.own 1], .row 4 .bool, .box 249 [.fn 184 [] []], .box 104 [.v ji]] 4)]
theorem zjr (nn : Nat) : FFOk 142 ⟨[jc], 4, .bool, fun t => za5 nn t⟩ := mk2 Tryz.func142 nn 9 [(1, [11]), (2, [20]), (3, [24])] [] [] [] (itc 650183 Tryz.func183 h0 1 [] (itc 10002590181 Tryz.func181 zjm 2 [] (itc 20003860228 Tryz.func228 zjf 3 [] itn (by kernel_rfl)) (by kernel_rfl)) (by kernel_rfl)) zqs rn gn (tc (vy nn) (tc (zfq nn) tn)) (by kernel_rfl) fun t => by kernel_rfl
theorem zj0 (nn : Nat) : qk 142 ⟨[jc], LB, fun t => za5 nn t⟩ := (zjr nn).pure
noncomputable def za0 (nn : Nat) (a0 : (Option y2)) : Option jm := ja (a0) fun a => ja (za5 nn a.1) fun b => J (fun (c : jm) => some c) fun d => jr (σ := Int × Int × Int × Int × (List Bool) × jm) (fun (e, f, g, h, i, j) k => ifB (decide (h < g)) (ja (atL i h) fun l => ifB (!l) (d (e, h, f, ())) (ja (some (w64 (h + 1))) fun m => k (e, f, g, m, i, j))) (d (0, 0, 0, ()))) nn (14, 0, (b.length : Int), 0, b, (0, 0, 0, ()))
noncomputable def zib := lk (α := HK) [(14, me [vp 2 0] [.box 25 [.v jq]] 1)]
noncomputable def zea := lk (α := HK) [(26, me [vi 1, vi 2, (3, .fn 143 [] [.pt 0 0]), vp 8 1, vi 10, vi 11] [.box 66 [.v LB], .box 25 [.v jq]] 2)]
theorem zd2 (nn : Nat) : qk 141 ⟨[(.ref yz)], jq, fun t => za0 nn t⟩ := mk1 Tryz.func141 nn 9 [(1, [22])] [] [] [] (itc 1310135 Tryz.func135 zea 1 [] (itc 10002580143 Tryz.func143 h0 2 [] itn (by kernel_rfl)) (by kernel_rfl)) zib rn gn (tc (zj0 nn) tn) (by kernel_rfl) fun t => by kernel_rfl
noncomputable def zcq (nn : Nat) (a0 : jz) (a1 : (List Bool)) : Option Bool := J (fun (a : Bool) => some a) fun b => ifB a0.1 (ja (atL a1 a0.2.1) fun c => b c) (b false)
noncomputable def zmb := lk (α := HK) [(6, me [vb 4] [] 0)]
theorem ze8 (nn : Nat) : qk 284 ⟨[jy, LB], .bool, fun t => zcq nn (t.1) (t.2)⟩ := mk1 Tryz.func284 nn 0 [] [] [] [] itn zmb rn gn tn (by kernel_rfl) fun t => by kernel_rfl
noncomputable def Va (nn : Nat) (a0 : jd) : Option (List Bool) := J (fun (a : (List Bool)) => some a) fun b => ja (yi nn a0) fun c => ifB (!c) (b []) (ja (some (a0.2.1.length : Int)) fun d => ja (mkO 1 d) fun e => jr (σ := (List jk) × Bool × (List Bool)) (fun (f, g, h) i => ifB g (jr (σ := (List jk) × Bool × (List jk) × Int × Int × (List Bool)) (fun (j, k, l, m, n, o) p => ifB (decide (n < m)) (ja (atL l n) fun q => J (σ := (List jk) × Bool × (List jk) × Int × Int × (List Bool)) (fun (r, s, u, v, w, x) => ja (some (w64 (w + 1))) fun z => p (r, s, u, v, z, x)) fun y => ja (qn o.length q.1) fun b0 => ja (atL o b0) fun b1 => ifB b1 (y (j, k, l, m, n, o)) (jr (σ := (List jz) × Int × Int × (List Bool) × jk) (fun (b2, b3, b4, b5, b6) b7 => ifB (decide (b4 < b3)) (ja (atL b2 b4) fun b8 => ja (zcq nn b8 b5) fun b9 => ifB (!b9) (y (j, k, l, m, n, b5)) (ja (some (w64 (b4 + 1))) fun c0 => b7 (b2, b3, c0, b5, b6))) (ja (qn b5.length b6.1) fun c1 => ja (zx b5 c1 true) fun c2 => y (j, true, l, m, n, c2))) nn (q.2.1, (q.2.1.length : Int), 0, o, q))) (i (j, k, o))) nn (f, false, f, (f.length : Int), 0, h)) (b h)) nn (a0.2.2.1, true, (replicate e false)))
noncomputable def zra := lk (α := HK) [(6, me [vo 2 0] [.row 4 .bool] 1)]
noncomputable def zju := lk (α := HK) [(6, me [(0, .v (.sl ji)), (1, .fn 228 [] [.pt 0 0, .pt 2 0]), vb 4] [.box 66 [.own 1], .row 4 .bool, .box 249 [.fn 284 [] []]] 3), (406, me [(0, .v (.sl ji)), (1, .fn 228 [] [.pt 0 0, .pt 2 0]), vb 4, (8, .v (.sl ji)), vi 9, vi 10] [.box 66 [.own 1], .row 4 .bool, .box 249 [.fn 284 [] []]] 3), (26009, me [(0, .v (.sl ji)), (1, .fn 228 [] [.pt 0 0, .pt 2 0]), vb 4, (8, .v (.sl ji)), vi 9, vi 10] [.box 66 [.own 1], .row 4 .bool, .box 249 [.fn 284 [] []]] 3)]
noncomputable def zjo := lk (α := HK) [(58, me [vp 1 0, vp 2 2, vp 3 3, (13, .v (.sl jy)), vi 14, vi 15] [.box 66 [.own 1], .row 4 .bool, .box 249 [.fn 284 [] []], .box 104 [.v ji]] 4)]
theorem zjy (nn : Nat) : FFOk 247 ⟨[jc], 4, .bool, fun t => Va nn t⟩ := mk2 Tryz.func247 nn 9 [(1, [11]), (2, [20]), (3, [24])] [] [] [] (itc 650183 Tryz.func183 h0 1 [] (itc 10002590181 Tryz.func181 zju 2 [] (itc 20003860228 Tryz.func228 zjo 3 [] itn (by kernel_rfl)) (by kernel_rfl)) (by kernel_rfl)) zra rn gn (tc (vy nn) (tc (ze8 nn) tn)) (by kernel_rfl) fun t => by kernel_rfl
theorem Ym (nn : Nat) : qk 247 ⟨[jc], LB, fun t => Va nn t⟩ := (zjy nn).pure
noncomputable def Jp (nn : Nat) (a0 : (List Int)) (a1 : (List Int)) : Option (List Int) := jr (σ := (List Int) × (List Int) × (List Int)) (fun (a, b, c) d => J (σ := (List Int) × (List Int) × Bool × (List Int)) (fun (e, f, g, h) => ifB g (J (σ := (List Int) × (List Int) × (List Int)) (fun (j, k, l) => d (j, k, l)) fun m => J (σ := (List Int) × (List Int) × Bool × (List Int)) (fun (n, o, p, q) => ifB p (ja (atL n 0) fun s => ja (apO 8 q [s]) fun u => ja (zh8 n (some 1) none) fun v => m (v, o, u)) (J (σ := (List Int) × (List Int) × Bool × (List Int)) (fun (w, x, y, z) => ifB y (ja (atL x 0) fun b1 => ja (apO 8 z [b1]) fun b2 => ja (zh8 x (some 1) none) fun b3 => m (w, b3, b2)) (ja (atL w 0) fun b4 => ja (apO 8 z [b4]) fun b5 => ja (zh8 w (some 1) none) fun b6 => ja (zh8 x (some 1) none) fun b7 => m (b6, b7, b5))) fun b0 => ja (some (decide ((n.length : Int) = 0))) fun b8 => ifB b8 (b0 (n, o, true, q)) (ja (atL o 0) fun b9 => ja (atL n 0) fun c0 => b0 (n, o, decide (b9 < c0), q)))) fun r => ja (some (decide ((f.length : Int) = 0))) fun c1 => ifB c1 (r (e, f, true, h)) (ja (some (decide (0 < (e.length : Int)))) fun c2 => ifB c2 (ja (atL e 0) fun c3 => ja (atL f 0) fun c4 => r (e, f, decide (c3 < c4), h)) (r (e, f, false, h)))) (some h)) fun i => ja (some (decide (0 < (a.length : Int)))) fun c5 => ifB c5 (i (a, b, true, c)) (i (a, b, decide (0 < (b.length : Int)), c))) nn (a0, a1, [])
noncomputable def zkd := lk (α := HK) [(14, me [vl 0, vl 1, vp 5 1, (6, .fn 316 [] [])] [.box 30 [.own 2], .box 335 [.fn 288 [] [.pt 0 0], .fn 288 [] [.pt 0 0], .fn 288 [] [.pt 0 0]], .row 3 I6] 3), (112, me [vl 0, vl 1, vp 5 1, (6, .fn 316 [] []), vb 14] [.box 30 [.own 2], .box 335 [.fn 288 [] [.pt 0 0], .fn 288 [] [.pt 0 0], .fn 288 [] [.pt 0 0]], .row 3 I6] 3), (114, me [vl 0, vl 1, vp 5 1, (6, .fn 316 [] [])] [.box 30 [.own 2], .box 335 [.fn 288 [] [.pt 0 0], .fn 288 [] [.pt 0 0], .fn 288 [] [.pt 0 0]], .row 3 I6] 3), (456, me [vl 0, vl 1, vp 5 1, (6, .fn 316 [] []), vb 26] [.box 30 [.own 2], .box 335 [.fn 288 [] [.pt 0 0], .fn 288 [] [.pt 0 0], .fn 288 [] [.pt 0 0]], .row 3 I6] 3), (1830, me [vl 0, vl 1, vp 5 1, (6, .fn 316 [] []), vb 53] [.box 30 [.own 2], .box 335 [.fn 288 [] [.pt 0 0], .fn 288 [] [.pt 0 0], .fn 288 [] [.pt 0 0]], .row 3 I6] 3)]
theorem Qa (nn : Nat) : FFOk 252 ⟨[L6, L6], 3, I6, fun t => Jp nn (t.1) (t.2)⟩ := mk2 Tryz.func252 nn 9 [(1, [9, 29, 33, 56])] [(3, [(5, .told I6)]), (5, [(5, .told I6)]), (7, [(5, .told I6)])] [] [] (itc 1980289 Tryz.func289 zkd 1 [] (itc 10003900316 Tryz.func316 h0 2 [1] (itc 20000660288 Tryz.func288 h0 3 [1] (itc 10005820316 Tryz.func316 h0 4 [1] (itc 40000660288 Tryz.func288 h0 5 [1] (itc 10001980316 Tryz.func316 h0 6 [1] (itc 60000660288 Tryz.func288 h0 7 [1] itn (by kernel_rfl)) (by kernel_rfl)) (by kernel_rfl)) (by kernel_rfl)) (by kernel_rfl)) (by kernel_rfl)) (by kernel_rfl)) h0 rn gn tn (by kernel_rfl) fun t => by kernel_rfl
noncomputable abbrev Yy := Jp
theorem zcg (nn : Nat) : qk 252 ⟨[L6, L6], L6, fun t => Jp nn (t.1) (t.2)⟩ := (Qa nn).pure
noncomputable def Yo (nn : Nat) (a0 : (Option Vz)) (a1 : (List jz)) : Option (List Int) := J (fun (a : (List Int)) => some a) fun b => jr (σ := (Option Vz) × (List jz) × Int × Int × (List Int)) (fun (c, d, e, f, g) h => ifB (decide (f < e)) (ja (atL d f) fun i => ifB (!i.1) (ja (Yy nn g [i.2.1]) fun j => some j) (ja (c) fun k => ja (atL k.2.1 i.2.1) fun l => ja (Yy nn g l) fun m => ja (c) fun n => ja (atL n.1 i.2.1) fun o => ifB (!o) (b m) (ja (some (w64 (f + 1))) fun p => h (c, d, e, p, m)))) (b g)) nn (a0, a1, (a1.length : Int), 0, [])
noncomputable def zd8 := lk (α := HK) [(29, me [vo 5 0] [.row 3 I6] 1), (58, me [(0, .v (.ref V3)), vo 5 0, (8, .v (.sl jy)), vi 9, vi 10] [.row 3 I6] 1)]
theorem Q4 (nn : Nat) : FFOk 287 ⟨[(.ref V3), (.sl jy)], 3, I6, fun t => Yo nn (t.1) (t.2)⟩ := mk2 Tryz.func287 nn 0 [(0, [41])] [(0, [(20, .told I6)])] [] [388, 457] itn zd8 rn (gc (Qa nn) gn) tn (by kernel_rfl) fun t => by kernel_rfl
noncomputable abbrev Yp := Yo
noncomputable def zba (nn : Nat) (a0 : jd) : Option (Option Vz) := ja (yi nn a0) fun a => ifB (!a) (some none) (ja (Va nn a0) fun b => ja (some (a0.2.1.length : Int)) fun c => ja (mkO 24 c) fun d => jr (σ := Bool × jd × (List Bool) × (List (List Int))) (fun (e, f, g, h) i => ifB e (jr (σ := Bool × (List jk) × Int × Int × jd × (List Bool) × (List (List Int))) (fun (j, k, l, m, n, o, p) q => ifB (decide (m < l)) (ja (atL k m) fun r => J (σ := Bool × (List jk) × Int × Int × jd × (List Bool) × (List (List Int))) (fun (s, u, v, w, x, y, z) => ja (some (w64 (w + 1))) fun b1 => q (s, u, v, b1, x, y, z)) fun b0 => ja (qn p.length r.1) fun b2 => ja (atL p b2) fun b3 => ja (Yp nn (some (o, p, ())) r.2.1) fun b4 => ja (Yy nn b3 b4) fun b5 => ja (qn p.length r.1) fun b6 => ja (atL p b6) fun b7 => ja (qn p.length r.1) fun b8 => ja (zx p b8 b5) fun b9 => ifB (decide ((b7.length : Int) < (b5.length : Int))) (b0 (true, k, l, m, n, o, b9)) (b0 (j, k, l, m, n, o, b9))) (i (j, n, o, p))) nn (false, f.2.2.1, (f.2.2.1.length : Int), 0, f, g, h)) (some (some (g, h, ())))) nn (true, a0, b, (replicate d ([] : (List Int)))))
noncomputable def zq5 := lk (α := HK) [(250, me [vp 1 0, vp 3 1, (4, .fn 315 [] [.pt 1 0]), vb 5] [.box 45 [.v jc], .box 326 [.pt 2 0], .box 329 [.v LB, .own 3], .row 30 L6] 4), (16022, me [vp 1 0, vp 3 1, (4, .fn 315 [] [.pt 1 0]), vb 5, (22, .v (.sl ji)), vi 23, vi 24] [.box 45 [.v jc], .box 326 [.pt 2 0], .box 329 [.v LB, .own 3], .row 30 L6] 4), (1025433, me [vp 1 0, vp 3 1, (4, .fn 315 [] [.pt 1 0]), vb 5, (22, .v (.sl ji)), vi 23, vi 24] [.box 45 [.v jc], .box 326 [.pt 2 0], .box 329 [.v LB, .own 3], .row 30 L6] 4)]
theorem zb7 (nn : Nat) : qk 283 ⟨[jc], (.ref V3), fun t => zba nn t⟩ := mk1 Tryz.func283 nn 9 [(0, [15, 34])] [] [(1000200, [(37, L6)])] [1000075, 1000076] (itc 7060315 Tryz.func315 h0 1 [] itn (by kernel_rfl)) zq5 rn (gc (Qa nn) (gc (Q4 nn) gn)) (tc (vy nn) (tc (Ym nn) tn)) (by kernel_rfl) fun t => by kernel_rfl
noncomputable def ziw (nn : Nat) (a0 : jd) : Option (List (List Int)) := ja (zba nn a0) fun a => ifB a.isNone (some []) (ja (a) fun b => ja (some (b.2.1.length : Int)) fun c => ja (mkO 24 c) fun d => ja (a) fun e => ja (cpyO (replicate d ([] : (List Int))) e.2.1) fun f => some f.2)
theorem zl1 (nn : Nat) : qk 246 ⟨[jc], M6, fun t => ziw nn t⟩ := mk1 Tryz.func246 nn 0 [(0, [13])] [] [] [] itn h0 rn gn (tc (zb7 nn) tn) (by kernel_rfl) fun t => by kernel_rfl
noncomputable def zge (nn : Nat) (a0 : jd) : Option Int := ja (yi nn a0) fun a => ifB (!a) (some (-1)) (some (a0.1.length : Int))
theorem zj1 (nn : Nat) : qk 248 ⟨[jc], I6, fun t => zge nn t⟩ := mk1 Tryz.func248 nn 0 [] [] [] [] itn h0 rn gn (tc (vy nn) tn) (by kernel_rfl) fun t => by kernel_rfl
noncomputable def za9 (nn : Nat) (a0 : jd) : Option (List (List Int)) := ja (yi nn a0) fun a => ifB (!a) (some []) (ja (ziw nn a0) fun b => ja (Va nn a0) fun c => ja (Qt nn a0) fun d => ja (some (a0.2.1.length : Int)) fun e => ja (mkO 24 e) fun f => ja (zge nn a0) fun g => ja (qn (replicate f ([] : (List Int))).length a0.2.2.2.1) fun h => ja (zx (replicate f ([] : (List Int))) h [g]) fun i => jr (σ := Bool × jd × (List (List Int)) × (List Bool) × (List Bool) × (List (List Int))) (fun (j, k, l, m, n, o) p => ifB j (jr (σ := Bool × (List jk) × Int × Int × jd × (List (List Int)) × (List Bool) × (List Bool) × (List (List Int))) (fun (q, r, s, u, v, w, x, y, z) b0 => ifB (decide (u < s)) (J (σ := Bool × (List jk) × Int × Int × jd × (List (List Int)) × (List Bool) × (List Bool) × (List (List Int))) (fun (b1, b2, b3, b4, b5, b6, b7, b8, b9) => ja (some (w64 (b4 + 1))) fun c1 => b0 (b1, b2, b3, c1, b5, b6, b7, b8, b9)) fun c0 => ja (atL r u) fun c2 => J (σ := Bool × (List jk) × Int × Int × Bool × jd × (List (List Int)) × (List Bool) × (List Bool) × (List (List Int))) (fun (c3, c4, c5, c6, c7, c8, c9, d0, d1, d2) => ifB c7 (c0 (true, c4, c5, c6, c8, c9, d0, d1, d2)) (c0 (c3, c4, c5, c6, c8, c9, d0, d1, d2))) fun d3 => ja (atL y c2.1) fun d4 => ifB d4 (ja (qn z.length c2.1) fun d5 => ja (atL z d5) fun d6 => ja (some (w64 ((c2.2.1.length : Int) - 1))) fun d7 => jr (σ := (List Int) × Int × (List (List Int)) × (List Bool) × (List Bool) × (List (List Int)) × jk × Bool) (fun (d8, d9, e0, e1, e2, e3, e4, e5) e6 => ifB (decide (0 ≤ d9)) (J (σ := (List Int) × Int × (List (List Int)) × (List Bool) × (List Bool) × (List (List Int)) × jk × Bool) (fun (e7, e8, e9, f0, f1, f2, f3, f4) => ja (some (w64 (e8 - 1))) fun f6 => e6 (e7, f6, e9, f0, f1, f2, f3, f4)) fun f5 => ja (atL e4.2.1 d9) fun f7 => ifB (!f7.1) (f5 ([f7.2.1], d9, e0, e1, e2, e3, e4, e5)) (ja (qn e3.length f7.2.1) fun f8 => ja (atL e3 f8) fun f9 => ja (Jp nn f9 d8) fun g0 => J (σ := Int × (List Int) × (List (List Int)) × (List Bool) × (List Bool) × (List (List Int)) × Bool) (fun (g1, g2, g3, g4, g5, g6, g7) => ja (qn g6.length g1) fun g9 => ja (zx g6 g9 g2) fun h0 => ja (atL g4 f7.2.1) fun h1 => ifB h1 (ja (atL g3 f7.2.1) fun h2 => ja (Jp nn d8 h2) fun h3 => f5 (h3, d9, g3, g4, g5, h0, e4, g7)) (ja (atL g3 f7.2.1) fun h4 => f5 (h4, d9, g3, g4, g5, h0, e4, g7))) fun g8 => ifB e5 (g8 (f7.2.1, g0, e0, e1, e2, e3, true)) (ja (qn e3.length f7.2.1) fun h5 => ja (atL e3 h5) fun h6 => g8 (f7.2.1, g0, e0, e1, e2, e3, decide ((h6.length : Int) < (g0.length : Int)))))) (d3 (q, r, s, u, e5, v, e0, e1, e2, e3))) nn (d6, d7, w, x, y, z, c2, false)) (d3 (q, r, s, u, false, v, w, x, y, z))) (p (q, v, w, x, y, z))) nn (false, k.2.2.1, (k.2.2.1.length : Int), 0, k, l, m, n, o)) (some o)) nn (true, a0, b, c, d, i))
noncomputable def zql := lk (α := HK) [(250, me [vp 1 0, vp 3 1, vb 4] [.box 45 [.v jc], .box 295 [.v M6, .v LB, .v LB, .own 2], .row 30 L6] 3), (16022, me [vp 1 0, vp 3 1, vb 4, (34, .v (.sl ji)), vi 35, vi 36] [.box 45 [.v jc], .box 295 [.v M6, .v LB, .v LB, .own 2], .row 30 L6] 3), (256358, me [vp 1 0, vp 3 1, vb 4, (34, .v (.sl ji)), vi 35, vi 36] [.box 45 [.v jc], .box 295 [.v M6, .v LB, .v LB, .own 2], .row 30 L6] 3), (2050866, me [vp 1 0, vp 3 1, vb 4, (34, .v (.sl ji)), vi 35, vi 36, vb 52] [.box 45 [.v jc], .box 295 [.v M6, .v LB, .v LB, .own 2], .row 30 L6] 3)]
noncomputable def zka := lk (α := HK) [(890, me [vp 2 2, vp 3 3, vp 5 4, (6, .fn 285 [] [.pt 2 0, .pt 4 0]), vl 7, vi 8] [.box 295 [.v M6, .v LB, .v LB, .own 1], .row 30 L6, .box 293 [.pt 0 0], .box 104 [.v ji], .box 4 [.v .bool]] 5), (7122, me [vp 2 2, vp 3 3, vp 5 4, (6, .fn 285 [] [.pt 2 0, .pt 4 0]), vl 7, vi 8] [.box 295 [.v M6, .v LB, .v LB, .own 1], .row 30 L6, .box 293 [.pt 0 0], .box 104 [.v ji], .box 4 [.v .bool]] 5)]
noncomputable def zjk := lk (α := HK) [(6, me [vi 0, vp 2 0, vl 6] [.box 293 [.pt 1 0], .box 295 [.v M6, .v LB, .v LB, .own 2], .row 30 L6, .box 4 [.v .bool]] 4)]
theorem zcb (nn : Nat) : qk 190 ⟨[jc], M6, fun t => za9 nn t⟩ := mk1 Tryz.func190 nn 9 [(0, [18, 53]), (1, [22, 26])] [(0, [(30, .own I6)]), (1, [(37, .told I6)])] [(266, [(30, L6)])] [] (itc 7150249 Tryz.func249 zka 1 [] (itc 10006440285 Tryz.func285 zjk 2 [] itn (by kernel_rfl)) (by kernel_rfl)) zql rn gn (tc (Zx nn) (tc (vy nn) (tc (zl1 nn) (tc (Ym nn) (tc (zj1 nn) (tc (zcg nn) tn)))))) (by kernel_rfl) fun t => by kernel_rfl
noncomputable def zeg (nn : Nat) (a0 : jd) (a1 : (List jz)) : Option Bool := jr (σ := (List jz) × Int × Int × jd) (fun (a, b, c, d) e => ifB (decide (c < b)) (ja (atL a c) fun f => J (σ := Int × (List jz) × Int × Int × jd × jz) (fun (g, h, i, j, k, l) => J (σ := (List jz) × Int × Int × Bool × jd) (fun (n, o, p, q, r) => ifB q (some false) (ja (some (w64 (p + 1))) fun u => e (n, o, u, r))) fun s => ja (some (decide (l.2.1 < 0))) fun v => ifB v (s (h, i, j, true, k)) (s (h, i, j, decide (g ≤ l.2.1), k))) fun m => ifB f.1 (m ((d.2.1.length : Int), a, b, c, d, f)) (m ((d.1.length : Int), a, b, c, d, f))) (some true)) nn (a1, (a1.length : Int), 0, a0)
noncomputable def zn1 := lk (α := HK) [(26, me [vp 2 0, (8, .v (.sl jy)), vi 9, vi 10] [.box 45 [.v jc]] 1), (3379, me [vp 2 0, vp 6 1, vi 7, (8, .v (.sl jy)), vi 9, vi 10] [.box 45 [.v jc], .box 110 [.v jy]] 2), (13518, me [vp 2 0, (8, .v (.sl jy)), vi 9, vi 10, vb 30] [.box 45 [.v jc]] 1)]
theorem zia (nn : Nat) : qk 286 ⟨[jc, (.sl jy)], .bool, fun t => zeg nn (t.1) (t.2)⟩ := mk1 Tryz.func286 nn 0 [(0, [24, 31])] [] [] [] itn zn1 rn gn tn (by kernel_rfl) fun t => by kernel_rfl
noncomputable def zl3 (nn : Nat) (a0 : jd) (a1 : (List jz)) : Option (List Int) := ja (zba nn a0) fun a => J (σ := (List jz) × (Option Vz) × Bool) (fun (b, c, d) => ifB d (some []) (ja (Yp nn c b) fun f => some f)) fun e => ifB a.isNone (e (a1, a, true)) (ja (zeg nn a0 a1) fun g => e (a1, a, !g))
noncomputable def zub := lk (α := HK) [(28, me [(1, .v (.sl jy)), (5, .v (.ref V3)), vb 15] [] 0)]
theorem zni (nn : Nat) : FFOk 250 ⟨[jc, (.sl jy)], 3, I6, fun t => zl3 nn (t.1) (t.2)⟩ := mk2 Tryz.func250 nn 0 [] [] [] [258] itn zub rn (gc (Q4 nn) gn) (tc (zb7 nn) (tc (zia nn) tn)) (by kernel_rfl) fun t => by kernel_rfl
noncomputable abbrev zvm := zl3
noncomputable def zi0 (nn : Nat) (a0 : jd) (a1 : (List jz)) : Option Bool := ja (Va nn a0) fun a => ja (zqu a) fun b => ifB b (some false) (jr (σ := (List Bool) × (List jz) × Int × Int) (fun (c, d, e, f) g => ifB (decide (f < e)) (ja (atL d f) fun h => J (σ := (List Bool) × (List jz) × Int × Int × Bool) (fun (i, j, k, l, m) => ifB m (some false) (ja (some (w64 (l + 1))) fun o => g (i, j, k, o))) fun n => ja (some (!h.1)) fun p => ifB p (n (c, d, e, f, true)) (ifB (decide (h.2.1 < 0)) (n (c, d, e, f, true)) (ifB (decide ((c.length : Int) ≤ h.2.1)) (n (c, d, e, f, true)) (ja (atL c h.2.1) fun q => n (c, d, e, f, !q))))) (some true)) nn (a, a1, (a1.length : Int), 0))
noncomputable def ztv := lk (α := HK) [(122, me [(5, .v LB), (12, .v (.sl jy)), vi 13, vi 14] [] 0), (15666, me [(5, .v LB), (12, .v (.sl jy)), vi 13, vi 14, vb 40] [] 0)]
theorem zm1 (nn : Nat) : qk 251 ⟨[jc, (.sl jy)], .bool, fun t => zi0 nn (t.1) (t.2)⟩ := mk1 Tryz.func251 nn 0 [(0, [20, 41])] [] [] [] itn ztv rn gn (tc (Ym nn) tn) (by kernel_rfl) fun t => by kernel_rfl
noncomputable def J9 (nn : Nat) (a0 : jd) (a1 : (List (List Int))) (a2 : jk) : Option (List Int) := ja (zvm nn a0 a2.2.1) fun a => J (fun (b : (List Int)) => some b) fun c => ja (zi0 nn a0 a2.2.1) fun d => ifB d (ja (atL a1 a2.1) fun e => ja (Yy nn a e) fun f => c f) (c a)
noncomputable def zji := lk (α := HK) [(7, me [vo 7 0] [.row 3 I6] 1)]
theorem zep (nn : Nat) : FFOk 191 ⟨[jc, M6, ji], 3, I6, fun t => J9 nn (t.1) (t.2.1) (t.2.2)⟩ := mk2 Tryz.func191 nn 0 [] [] [] [67, 198] itn zji rn (gc (zni nn) (gc (Qa nn) gn)) (tc (zm1 nn) tn) (by kernel_rfl) fun t => by kernel_rfl
theorem Zj (nn : Nat) : qk 191 ⟨[jc, M6, ji], L6, fun t => J9 nn (t.1) (t.2.1) (t.2.2)⟩ := (zep nn).pure
def Jf : (Bool × (List (jb × (List Int) × Unit)) × jb × jb × (List Bool)) → Option MS := fun (b5, b6, b7, b8, b9) => some ⟨3, 1, 0, 1, jj, 3, I6, b6, 0, b9⟩
noncomputable def vm (nn : Nat) : Nat → (Bool × (List (jb × (List Int) × Unit)) × jb × jb × (List Bool)) → Option (Bool × (List (jb × (List Int) × Unit)) × jb × jb × (List Bool)) := fun c0 (b5, b6, b7, b8, b9) => ja (zh0 b6 c0) fun c1 => J (σ := Bool × (List (jb × (List Int) × Unit)) × jb × jb × (List Bool)) (fun (c2, c3, c4, c5, c6) => some (c2, c3, c4, c5, c6)) fun c7 => ja (zl5 (b9.set c0 true) b6 c0) fun c8 => J (σ := Bool × Bool × (List (jb × (List Int) × Unit)) × jb × jb × jb × (List Bool)) (fun (c9, d0, d1, d2, d3, d4, d5) => ifB d0 (c7 (c9, d1, d2, d3, d5)) (c7 (true, d1, d2, d4, d5))) fun d6 => ja (atL (b6.map fun e => e.2.1) (c0 : Int)) fun d7 => ja (some (decide ((d7.length : Int) < 2))) fun d8 => ifB d8 (d6 (b5, true, b6, b7, b8, c8.1, (b9.set c0 true))) (ifB b5 (ja (some (decide (b8.1 < c8.1.1))) fun d9 => ifB d9 (d6 (b5, true, b6, b7, b8, c8.1, (b9.set c0 true))) (ja (some (decide (b8.1 = c8.1.1))) fun e0 => ifB e0 (d6 (b5, decide (b8.2.1 < c8.1.2.1), b6, b7, b8, c8.1, (b9.set c0 true))) (d6 (b5, false, b6, b7, b8, c8.1, (b9.set c0 true))))) (d6 (b5, false, b6, b7, b8, c8.1, (b9.set c0 true))))
noncomputable def zcw (nn : Nat) (M0 : ((Bool × (List (jb × (List Int) × Unit)) × jb × jb × (List Bool)) → Option (jm × Int × Unit)) → (Bool × (List (jb × (List Int) × Unit)) × jb × jb × (List Bool)) → Option (jm × Int × Unit)) (a0 : jd) : Option (jm × Int × Unit) := ja (yi nn a0) fun a => ifB (!a) (some ((0, 0, 0, ()), (-1), ())) (ja (za9 nn a0) fun b => jr (σ := (List (List Int)) × (List jk) × Int × Int × jd × (List (jb × (List Int) × Unit))) (fun (c, d, e, f, g, h) i => ifB (decide (f < e)) (ja (atL d f) fun j => ja (J9 nn g c j) fun k => jr (σ := (List (List Int)) × Int × (List jk) × Int × Int × (List Int) × Int × Int × jd × (List (jb × (List Int) × Unit)) × jk) (fun (l, m, n, o, p, q, r, s, u, v, w) x => ifB (decide (s < r)) (ja (atL q s) fun y => ja (z1a zmk (w.1, y, ()) v) fun z => ja (ja (atL (z.2.map fun e => e.2.1) (z.1 : Int)) fun b0 => apO 8 b0 [m]) fun b1 => ja (zxj z.2 ((z.1 : Int).toNat) (z.1 : Int) b1) fun b2 => ja (some (w64 (s + 1))) fun b3 => x (l, m, n, o, p, q, r, b3, u, b2, w)) (ja (some (w64 (p + 1))) fun b4 => i (l, n, o, b4, u, v))) nn (c, f, d, e, f, k, (k.length : Int), 0, g, h, j)) (M0 (fun (e1, e2, e3, e4, e5) => ifB (!e1) (some ((0, 0, 0, ()), (-1), ())) (ja (kIx zmk e4 (e2.map fun e => e.1)) fun e6 => ja (ja (atL (e2.map fun e => e.2.1) (e6 : Int)) fun e7 => qn e7.length 1) fun e8 => ja (ja (atL (e2.map fun e => e.2.1) (e6 : Int)) fun e9 => atL e9 e8) fun f0 => some ((15, e4.1, e4.2.1, ()), f0, ()))) (false, h, (0, 0, ()), (0, 0, ()), (replicate h.length false)))) nn (b, a0.2.2.1, (a0.2.2.1.length : Int), 0, a0, ([] : List (jb × List Int × Unit))))
noncomputable def J1 (nn : Nat) (a0 : jd) : Option (jm × Int × Unit) := zcw nn (zuz Jf (vm nn)) a0
noncomputable def Zn (nn : Nat) (a0 : jd) : Option (jm × Int × Unit) := zcw nn (mrC Jf (vm nn)) a0
def zfr (e : jb × List Int × Unit) (s : Bool × jb) : Bool × jb := if e.2.1.length < 2 ∨ (s.1 = true ∧ (s.2.1 < e.1.1 ∨ s.2.1 = e.1.1 ∧ s.2.2.1 < e.1.2.1)) then s else (true, e.1)
theorem zyk (a b : jb × List Int × Unit) (s : Bool × jb) : zfr b (zfr a s) = zfr a (zfr b s) := by
  obtain ⟨⟨a1, a2, _⟩, al, _⟩ := a
  obtain ⟨⟨b1, b2, _⟩, bl, _⟩ := b
  obtain ⟨i, f1, f2, _⟩ := s
  unfold zfr
  grind
theorem Yx {α : Type} {mk : List Bool} {es : List α} {j : Nat} (h : mk.length = es.length) : zl5 mk es j = es[j]? := by
  unfold zl5
  rw [h, wdm]; rfl
theorem zdu {α : Type} {mk : List Bool} {es : List α} {j : Nat} (h : mk.length ≠ es.length) : zl5 mk es j = none := by
  unfold zl5
  cases hb : Nat.beq mk.length es.length with
  | true => exact absurd (wb2 hb) h
  | false => rfl
theorem zv1 {α β : Type} {es : List (α × List β × Unit)} {j : Nat} {e : α × List β × Unit} (h : es[j]? = some e) : atL (es.map fun e => e.2.1) (j : Int) = some e.2.1 := by
  unfold atL
  rw [wb9]
  simp [h]
theorem zdy (nn j : Nat) (i : Bool) (es : List (jb × (List Int) × Unit)) (r f : jb) (mk : List Bool) : vm nn j (i, es, r, f, mk) = ja (zl5 (mk.set j true) es j) fun e => some ((zfr e (i, f)).1, es, r, (zfr e (i, f)).2, mk.set j true) := by
  by_cases hl : (mk.set j true).length = es.length
  · have e0 := Yx (es := es) (j := j) hl
    unfold vm
    cases he : es[j]? with
    | none => simp only [zh0, he, e0, ja]
    | some e =>
      simp only [zh0, he, e0, ja, J, zv1 he]
      unfold zfr
      by_cases h1 : e.2.1.length < 2
      · have : decide ((e.2.1.length : Int) < 2) = true := by simp; omega
        simp only [this, ifB, h1, true_or, if_true]
      · have : decide ((e.2.1.length : Int) < 2) = false := by simp; omega
        simp only [this, ifB, h1, false_or]
        cases i with
        | false => simp
        | true =>
          by_cases h2 : f.1 < e.1.1
          · simp [h2]
          · by_cases h3 : f.1 = e.1.1
            · by_cases h4 : f.2.1 < e.1.2.1 <;> simp [h3, h4]
            · simp [h2, h3]
  · have e0 := zdu (es := es) (j := j) hl
    unfold vm
    cases he : es[j]? with
    | none => simp only [zh0, he, e0, ja]
    | some e => simp only [zh0, he, e0, ja, J]
theorem Yf (nn : Nat) : zlz Jf (vm nn) where
  keep := fun j t t' m h hm => by
    obtain ⟨i, es, r, f, mk⟩ := t
    rw [zdy] at h
    obtain ⟨e, _, h2⟩ := qg h
    cases h2
    cases hm; rfl
  swap := fun a b t m x y hne hm hx hy hk => by
    obtain ⟨i, es, r, f, mk⟩ := t
    cases hm
    simp only at hx hy
    by_cases hl : mk.length = es.length
    · rw [zdy, zdy, Yx (by simpa using hl), Yx (by simpa using hl), hx, hy]
      simp only [ja, zdy]
      rw [Yx (by simpa using hl), Yx (by simpa using hl), hx, hy]
      simp only [ja]
      have h := zyk x y (i, f)
      rw [show ((zfr x (i, f)).1, (zfr x (i, f)).2) = zfr x (i, f) from rfl, show ((zfr y (i, f)).1, (zfr y (i, f)).2) = zfr y (i, f) from rfl, h, List.set_comm _ _ hne]
    · rw [zdy, zdy, zdu (by simpa using hl), zdu (by simpa using hl)]
      rfl
theorem zgw (nn : Nat) (a0 : jd) : Zn nn a0 = J1 nn a0 := by
  unfold Zn J1
  simp only [zp5 (Yf nn)]
noncomputable def zic := lk (α := HK) [(58, me [vp 1 0, vo 3 1, (4, .v M6), (14, .v (.sl ji)), vi 15, vi 16] [.box 45 [.v jc], .mrows jj 3 I6] 2), (14950, me [vp 1 0, vo 3 1, (4, .v M6), vi 5, vp 6 2, (14, .v (.sl ji)), vi 15, vi 16, vl 24, vi 25, vi 26] [.box 45 [.v jc], .mrows jj 3 I6, .box 104 [.v ji]] 3)]
noncomputable def zhd := lk (α := HK) [(58, .mr ⟨[(2, .pt 1 0), (4, .pt 2 0), (5, .v .bool), (10, .own 3)], [(0, .mrows jj 3 I6), (1, .box 219 [.v jj]), (2, .box 219 [.v jj]), (3, .iter 0)], 4⟩), (467, me [vp 2 1, vp 4 2, vb 5, vo 10 3] [.mrows jj 3 I6, .box 219 [.v jj], .box 219 [.v jj], .iter 0] 4), (7476, me [vp 2 1, vp 4 2, vb 5, vp 6 3, vo 10 4, vb 42] [.mrows jj 3 I6, .box 219 [.v jj], .box 219 [.v jj], .box 219 [.v jj], .iter 0] 5)]
theorem zhz (nn : Nat) : qk 145 ⟨[jc], (.tup (.cons jq (.cons I6 .nil))), fun t => J1 nn t⟩ := by
  have h : (fun t => J1 nn t : DL [jc] → Option (Ty.D (.tup (.cons jq (.cons I6 .nil))))) = fun t => Zn nn t := funext fun t => (zgw nn t).symm
  rw [h]
  exact mk1 Tryz.func145 nn 9 [(1, [42, 43]), (2, [18, 26, 32])] [(1, [(10, (.mrows jj 3 I6)), (38, .told I6)])] [] [] (itc 1930149 Tryz.func149 zic 1 [] (itc 2570150 Tryz.func150 zhd 2 [] itn (by kernel_rfl)) (by kernel_rfl)) h0 rn gn (tc (vy nn) (tc (zcb nn) (tc (Zj nn) tn))) (by kernel_rfl) fun t => by kernel_rfl
noncomputable def Vm (nn : Nat) (a0 : (Option y2)) : Option jm := ja (a0) fun a => ja (J1 nn a.1) fun b => some b.1
theorem zd9 (nn : Nat) : qk 144 ⟨[(.ref yz)], jq, fun t => Vm nn t⟩ := mk1 Tryz.func144 nn 0 [] [] [] [] itn h0 rn gn (tc (zhz nn) tn) (by kernel_rfl) fun t => by kernel_rfl
noncomputable def Vq (nn : Nat) (a0 : Int) : Option Bool := some (decide (¬ a0 = a0))
theorem zec (nn : Nat) : qk 317 ⟨[I6], .bool, fun t => Vq nn t⟩ := mk1 Tryz.func317 nn 0 [] [] [] [] itn h0 rn gn tn (by kernel_rfl) fun t => by kernel_rfl
noncomputable def zce (nn : Nat) (a0 : Int) (a1 : Int) : Option Bool := J (fun (a : Bool) => some a) fun b => ja (Vq nn a0) fun c => ifB c (ja (Vq nn a1) fun d => ifB (!d) (b true) (b (decide (a0 < a1)))) (b (decide (a0 < a1)))
noncomputable def zkf := lk (α := HK) [(6, me [vb 4] [] 0)]
theorem zez (nn : Nat) : qk 303 ⟨[I6, I6], .bool, fun t => zce nn (t.1) (t.2)⟩ := mk1 Tryz.func303 nn 0 [] [] [] [] itn zkf rn gn (tc (zec nn) tn) (by kernel_rfl) fun t => by kernel_rfl
noncomputable def yw (nn : Nat) (a0 : (List Int)) (a1 : (List Int)) : Option (List Int) := ja (Jn a0 a0) fun a => ja (apO 8 a a1) fun b => ja (Jn b (zcc b)) fun c => ja (Jn c (zaq c)) fun d => some d
theorem zi7 (nn : Nat) : FFOk 301 ⟨[L6, L6], 3, I6, fun t => yw nn (t.1) (t.2)⟩ := mk2 Tryz.func301 nn 0 [] [] [] [] itn h0 rn gn tn (by kernel_rfl) fun t => by kernel_rfl
theorem zjd (nn : Nat) : qk 301 ⟨[L6, L6], L6, fun t => yw nn (t.1) (t.2)⟩ := (zi7 nn).pure
noncomputable def V6 (nn : Nat) (a0 : (List js)) : Option (Option zlq) := ja (zbd nn a0) fun a => ifB (decide (¬ a = 0)) (some none) (jr (σ := (List js) × Int × Int × Bool × Int × (List (Arr 4 Int)) × (List (List Int)) × (List Int) × (List Int) × (List qw)) (fun (b, c, d, e, f, g, h, i, j, k) l => ifB (decide (d < c)) (ja (atL b d) fun m => J (σ := (List js) × Int × Int × Bool × Int × qw × (List (Arr 4 Int)) × (List (List Int)) × (List Int) × (List Int) × (List qw)) (fun (n, o, p, q, r, s, u, v, w, x, y) => ja (apO 64 y [s]) fun b0 => ja (some (w64 (p + 1))) fun b1 => l (n, o, b1, q, r, u, v, w, x, b0)) fun z => ifB (decide (m.1 = 1)) (ja (some (g.length : Int)) fun b2 => ja (apO 32 g [m.2.1]) fun b3 => ja (apO 24 h [[]]) fun b4 => z (b, c, d, e, f, (([b2], [b2], false, ()), 1, ()), b3, b4, i, j, k)) (ifB (decide (m.1 = 2)) (z (b, c, d, e, f, (([], [], true, ()), 0, ()), g, h, i, j, k)) (ifB (decide (m.1 = 3)) (ja (qn k.length (w64 ((k.length : Int) - 1))) fun b5 => ja (atL k b5) fun b6 => ja (zcp k (w64 ((k.length : Int) - 1))) fun b7 => ja (qn b7.length (w64 ((b7.length : Int) - 1))) fun b8 => ja (atL b7 b8) fun b9 => ja (zcp b7 (w64 ((b7.length : Int) - 1))) fun c0 => jr (σ := (List Int) × (List Int) × Int × Int × Bool × Int × (List (Arr 4 Int)) × (List (List Int)) × (List Int) × (List Int)) (fun (c1, c2, c3, c4, c5, c6, c7, c8, c9, d0) d1 => ifB (decide (c4 < c3)) (ja (atL c2 c4) fun d2 => ja (qn c8.length d2) fun d3 => ja (atL c8 d3) fun d4 => ja (yw nn d4 c1) fun d5 => ja (qn c8.length d2) fun d6 => ja (zx c8 d6 d5) fun d7 => ja (some (w64 (c4 + 1))) fun d8 => d1 (c1, c2, c3, d8, c5, c6, c7, d7, c9, d0)) (J (σ := Bool × Int × (List (Arr 4 Int)) × (List (List Int)) × (List Int) × (List Int) × qw × qw × Bool × Int × qw × (List Int) × (List Int)) (fun (d9, e0, e1, e2, e3, e4, e5, e6, e7, e8, e9, f0, f1) => J (σ := Bool × Int × (List (Arr 4 Int)) × (List (List Int)) × (List Int) × (List Int) × qw × qw × Bool × Int × qw × (List Int) × (List Int)) (fun (f3, f4, f5, f6, f7, f8, f9, g0, g1, g2, g3, g4, g5) => J (σ := Bool × Int × (List (Arr 4 Int)) × (List (List Int)) × (List Int) × (List Int) × Bool × Int × qw × (List Int) × (List Int)) (fun (g7, g8, g9, h0, h1, h2, h3, h4, h5, h6, h7) => z (b, c, d, g7, g8, h5, g9, h0, h1, h2, c0)) fun h8 => ifB g0.1.2.2.1 (ja (yw nn f9.1.2.1 g0.1.2.1) fun h9 => h8 (f3, f4, f5, f6, f7, f8, g1, g2, ((g3.1.1, h9, g3.1.2.2.1, ()), g3.2.1, ()), g4, g5)) (h8 (f3, f4, f5, f6, f7, f8, g1, g2, g3, g4, g5))) fun g6 => ifB e5.1.2.2.1 (ja (yw nn e5.1.1 e6.1.1) fun i0 => g6 (d9, e0, e1, e2, e3, e4, e5, e6, e7, e8, ((i0, e9.1.2.1, e9.1.2.2.1, ()), e9.2.1, ()), f0, f1)) (g6 (d9, e0, e1, e2, e3, e4, e5, e6, e7, e8, e9, f0, f1))) fun f2 => ifB b9.1.2.2.1 (f2 (c5, c6, c7, c8, c9, d0, b9, b6, false, 0, ((b9.1.1, b6.1.2.1, b6.1.2.2.1, ()), w64 (b9.2.1 + b6.2.1), ()), [], [])) (f2 (c5, c6, c7, c8, c9, d0, b9, b6, false, 0, ((b9.1.1, b6.1.2.1, false, ()), w64 (b9.2.1 + b6.2.1), ()), [], [])))) nn (b6.1.1, b9.1.2.1, (b9.1.2.1.length : Int), 0, e, f, g, h, i, j)) (ifB (decide (m.1 = 4)) (ja (qn k.length (w64 ((k.length : Int) - 1))) fun i1 => ja (atL k i1) fun i2 => ja (zcp k (w64 ((k.length : Int) - 1))) fun i3 => ja (qn i3.length (w64 ((i3.length : Int) - 1))) fun i4 => ja (atL i3 i4) fun i5 => ja (zcp i3 (w64 ((i3.length : Int) - 1))) fun i6 => J (σ := (List js) × Int × Int × Bool × Int × qw × (List (Arr 4 Int)) × (List (List Int)) × (List Int) × (List Int) × (List qw)) (fun (i7, i8, i9, j0, j1, j2, j3, j4, j5, j6, j7) => z (i7, i8, i9, j0, j1, j2, j3, j4, j5, j6, j7)) fun j8 => ja (yw nn i5.1.1 i2.1.1) fun j9 => ja (yw nn i5.1.2.1 i2.1.2.1) fun k0 => ifB i5.1.2.2.1 (j8 (b, c, d, e, f, ((j9, k0, true, ()), w64 (i5.2.1 + i2.2.1), ()), g, h, i, j, i6)) (j8 (b, c, d, e, f, ((j9, k0, i2.1.2.2.1, ()), w64 (i5.2.1 + i2.2.1), ()), g, h, i, j, i6))) (ja (qn k.length (w64 ((k.length : Int) - 1))) fun k1 => ja (atL k k1) fun k2 => ja (zcp k (w64 ((k.length : Int) - 1))) fun k3 => J (σ := (List js) × Int × Int × Bool × Int × js × qw × (List (Arr 4 Int)) × (List (List Int)) × (List Int) × (List Int) × (List qw)) (fun (k4, k5, k6, k7, k8, k9, l0, l1, l2, l3, l4, l5) => J (σ := (List js) × Int × Int × Bool × Int × qw × (List (Arr 4 Int)) × (List (List Int)) × (List Int) × (List Int) × (List qw)) (fun (l7, l8, l9, m0, m1, m2, m3, m4, m5, m6, m7) => z (l7, l8, l9, m0, m1, m2, m3, m4, m5, m6, m7)) fun m8 => ifB l0.1.2.2.1 (m8 (k4, k5, k6, k7, k8, ((l0.1.1, l0.1.2.1, true, ()), l0.2.1, ()), l1, l2, l3, l4, l5)) (m8 (k4, k5, k6, k7, k8, ((l0.1.1, l0.1.2.1, decide (¬ k9.1 = 6), ()), l0.2.1, ()), l1, l2, l3, l4, l5))) fun l6 => ifB (decide (¬ m.1 = 7)) (jr (σ := (List Int) × (List Int) × Int × Int × Bool × Int × (List (Arr 4 Int)) × (List (List Int)) × (List Int) × (List Int)) (fun (m9, n0, n1, n2, n3, n4, n5, n6, n7, n8) n9 => ifB (decide (n2 < n1)) (ja (atL n0 n2) fun o0 => ja (qn n6.length o0) fun o1 => ja (atL n6 o1) fun o2 => ja (yw nn o2 m9) fun o3 => ja (qn n6.length o0) fun o4 => ja (zx n6 o4 o3) fun o5 => ja (some (w64 (n2 + 1))) fun o6 => n9 (m9, n0, n1, o6, n3, n4, n5, o5, n7, n8)) (l6 (b, c, d, n3, n4, m, k2, n5, n6, n7, n8, k3))) nn (k2.1.1, k2.1.2.1, (k2.1.2.1.length : Int), 0, e, f, g, h, i, j)) (l6 (b, c, d, e, f, m, k2, g, h, i, j, k3))))))) (ja (qn k.length 0) fun o7 => ja (atL k o7) fun o8 => some (some (g, h, o8, ())))) nn (a0, (a0.length : Int), 0, false, 0, [], [], [], [], []))
noncomputable def zr0 := lk (α := HK) [(506, me [vp 3 0, vp 4 1, (5, .fn 298 [] [.pt 1 0]), (18, .v (.sl jl)), vi 19, vi 20] [.box 322 [.own 2, .own 3, .agg [.agg [.own 4, .own 5, .v .bool], .v I6]], .box 341 [.own 6], .row 140 (.arr 4 (.int .u64)), .row 30 L6, .row 3 I6, .row 3 I6, .row 320 qt] 7), (259277, me [vp 3 0, vp 4 1, (5, .fn 298 [] [.pt 1 0]), vp 8 2, (18, .v (.sl jl)), vi 19, vi 20] [.box 322 [.own 3, .own 4, .agg [.agg [.own 5, .own 6, .v .bool], .v I6]], .box 341 [.own 7], .box 320 [.v qt], .row 140 (.arr 4 (.int .u64)), .row 30 L6, .row 3 I6, .row 3 I6, .row 320 qt] 8), (265500157, me [vp 3 0, vp 4 1, (5, .fn 298 [] [.pt 1 0]), vp 8 2, (18, .v (.sl jl)), vi 19, vi 20] [.box 322 [.own 3, .own 4, .agg [.agg [.own 5, .own 6, .v .bool], .v I6]], .box 341 [.own 7], .box 320 [.v qt], .row 140 (.arr 4 (.int .u64)), .row 30 L6, .row 3 I6, .row 3 I6, .row 320 qt] 8), (265500159, me [vp 3 0, vp 4 1, (5, .fn 298 [] [.pt 1 0]), vp 7 2, vp 8 3, (18, .v (.sl jl)), vi 19, vi 20] [.box 322 [.own 4, .own 5, .agg [.agg [.own 6, .own 7, .v .bool], .v I6]], .box 341 [.own 8], .box 142 [.v jl], .box 320 [.v qt], .row 140 (.arr 4 (.int .u64)), .row 30 L6, .row 3 I6, .row 3 I6, .row 320 qt] 9), (531000319, me [vp 3 0, vp 4 1, (5, .fn 298 [] [.pt 1 0]), vp 8 2, (18, .v (.sl jl)), vi 19, vi 20] [.box 322 [.own 3, .own 4, .agg [.agg [.own 5, .own 6, .v .bool], .v I6]], .box 341 [.own 7], .box 320 [.v qt], .row 140 (.arr 4 (.int .u64)), .row 30 L6, .row 3 I6, .row 3 I6, .row 320 qt] 8)]
noncomputable def zlj := lk (α := HK) [(14, me [vp 4 5, vp 5 6, vp 6 7, vp 7 8] [.box 322 [.own 1, .own 2, .agg [.agg [.own 3, .own 4, .v .bool], .v I6]], .row 140 (.arr 4 (.int .u64)), .row 30 L6, .row 3 I6, .row 3 I6, .box 320 [.v qt], .box 320 [.v qt], .box 320 [.agg [.own 9, .own 10, .v .bool], .v I6], .box 320 [.v qt], .row 3 I6, .row 3 I6] 11), (15, me [vp 4 5, vp 5 6, vp 6 7, vp 7 8] [.box 322 [.own 1, .own 2, .agg [.agg [.own 3, .own 4, .v .bool], .v I6]], .row 140 (.arr 4 (.int .u64)), .row 30 L6, .row 3 I6, .row 3 I6, .box 320 [.v qt], .box 320 [.v qt], .box 320 [.agg [.own 9, .own 10, .v .bool], .v I6], .box 320 [.v qt], .row 3 I6, .row 3 I6] 11), (31, me [vp 6 5, vp 7 6] [.box 322 [.own 1, .own 2, .agg [.agg [.own 3, .own 4, .v .bool], .v I6]], .row 140 (.arr 4 (.int .u64)), .row 30 L6, .row 3 I6, .row 3 I6, .box 320 [.agg [.own 7, .own 8, .v .bool], .v I6], .box 320 [.v qt], .row 3 I6, .row 3 I6] 9)]
noncomputable def zk5 := lk (α := HK) [(6, me [vp 0 0, vl 2, vl 8, vi 9, vi 10] [.box 322 [.own 1, .own 2, .agg [.agg [.own 3, .own 4, .v .bool], .v I6]], .row 140 (.arr 4 (.int .u64)), .row 30 L6, .row 3 I6, .row 3 I6] 5)]
noncomputable def zmp := lk (α := HK) [(6, me [vp 0 0, vl 2, vl 8, vi 9, vi 10] [.box 322 [.own 1, .own 2, .agg [.agg [.own 3, .own 4, .v .bool], .v I6]], .row 140 (.arr 4 (.int .u64)), .row 30 L6, .row 3 I6, .row 3 I6] 5)]
theorem Qv (nn : Nat) : qk 279 ⟨[(.sl jl)], (.ref zlh), fun t => V6 nn t⟩ := mk1 Tryz.func279 nn 9 [(0, [107]), (1, [10]), (5, [29]), (9, [29])] [(0, [(105, .told qt)]), (1, [(17, .told (.arr 4 (.int .u64))), (26, .told L6), (31, .told I6), (33, .told I6)])] [] [] (itc 10270299 Tryz.func299 h0 1 [1, 2] (itc 12810298 Tryz.func298 h0 2 [1] (itc 13460298 Tryz.func298 h0 3 [1] (itc 13480300 Tryz.func300 zlj 4 [] (itc 40000710302 Tryz.func302 zk5 5 [] (itc 14730298 Tryz.func298 h0 6 [1] (itc 14750298 Tryz.func298 h0 7 [1] (itc 7050298 Tryz.func298 h0 8 [1] (itc 8390302 Tryz.func302 zmp 9 [] itn (by kernel_rfl)) (by kernel_rfl)) (by kernel_rfl)) (by kernel_rfl)) (by kernel_rfl)) (by kernel_rfl)) (by kernel_rfl)) (by kernel_rfl)) (by kernel_rfl)) zr0 rn gn (tc (zag nn) (tc (zjd nn) tn)) (by kernel_rfl) fun t => by kernel_rfl
noncomputable def ziv (nn : Nat) (a0 : (List js)) : Option (List Int) := ja (V6 nn a0) fun a => ifB (!a.isNone) (ja (a) fun b => some b.2.2.1.1.2.1) (some [])
theorem zml (nn : Nat) : qk 237 ⟨[(.sl jl)], L6, fun t => ziv nn t⟩ := mk1 Tryz.func237 nn 0 [] [] [] [] itn h0 rn gn (tc (Qv nn) tn) (by kernel_rfl) fun t => by kernel_rfl
noncomputable def ziu (nn : Nat) (a0 : (List js)) : Option (List (Arr 4 Int)) := ja (V6 nn a0) fun a => ifB (!a.isNone) (ja (a) fun b => some b.1) (some [])
theorem zmy (nn : Nat) : qk 238 ⟨[(.sl jl)], (.sl (.arr 4 (.int .u64))), fun t => ziu nn t⟩ := mk1 Tryz.func238 nn 0 [] [] [] [] itn h0 rn gn (tc (Qv nn) tn) (by kernel_rfl) fun t => by kernel_rfl
noncomputable def Ju (nn : Nat) (a0 : Int) : Option Bool := some (decide (¬ a0 = a0))
theorem zb1 (nn : Nat) : qk 304 ⟨[I6], .bool, fun t => Ju nn t⟩ := mk1 Tryz.func304 nn 0 [] [] [] [] itn h0 rn gn tn (by kernel_rfl) fun t => by kernel_rfl
noncomputable def yx (nn : Nat) (a0 : (List Int)) (a1 : Int) : Option (Int × Bool × Unit) := ja (some (a0.length : Int)) fun a => jr (σ := (List Int) × Int × Int × Int × Int) (fun (b, c, d, e, f) g => ifB (decide (e < f)) (J (σ := (List Int) × Int × Int × Int × Int) (fun (h, i, j, k, l) => g (h, i, j, k, l)) fun m => ja (zyl .u64 (wr .u64 (w64 (e + f))) 1) fun n => ja (some (wr .i64 n)) fun o => ja (atL b o) fun p => ja (zce nn p c) fun q => ifB q (ja (some (w64 (o + 1))) fun r => m (b, c, d, r, f)) (m (b, c, d, e, o))) (J (σ := Int × Bool) (fun (s, u) => some (s, u, ())) fun v => ja (some (decide (e < d))) fun w => ifB w (ja (atL b e) fun x => ja (some (decide (x = c))) fun y => ifB y (v (e, true)) (ja (atL b e) fun z => ja (Ju nn z) fun b0 => ifB b0 (ja (Ju nn c) fun b1 => v (e, b1)) (v (e, false)))) (v (e, false)))) nn (a0, a1, a, 0, a)
noncomputable def Qy := lk (α := HK) [(60, me [vl 0, vi 1, vi 6, vi 7, vi 8] [] 0), (62, me [vi 4, vb 5] [] 0), (241, me [vl 0, vi 1, vi 6, vi 7, vi 8] [] 0)]
theorem J6 (nn : Nat) : qk 280 ⟨[L6, I6], (.tup (.cons I6 (.cons .bool .nil))), fun t => yx nn (t.1) (t.2)⟩ := mk1 Tryz.func280 nn 0 [(0, [11, 21, 29, 34, 41])] [] [] [] itn Qy rn gn (tc (zez nn) (tc (zb1 nn) tn)) (by kernel_rfl) fun t => by kernel_rfl
noncomputable def zkr (nn : Nat) (a0 : (List Int)) (a1 : Int) : Option Bool := ja (yx nn a0 a1) fun a => some a.2.1
theorem znu (nn : Nat) : qk 239 ⟨[L6, I6], .bool, fun t => zkr nn (t.1) (t.2)⟩ := mk1 Tryz.func239 nn 0 [] [] [] [] itn h0 rn gn (tc (J6 nn) tn) (by kernel_rfl) fun t => by kernel_rfl
noncomputable def zed (nn : Nat) (a0 : (List js)) (a1 : Int) : Option (List Int) := ja (V6 nn a0) fun a => J (σ := Int × (Option zlq) × Bool) (fun (b, c, d) => ifB d (ja (c) fun f => ja (atL f.2.1 b) fun g => some g) (some [])) fun e => ja (some (!a.isNone)) fun h => ifB h (ifB (decide (0 ≤ a1)) (ja (a) fun i => e (a1, a, decide (a1 < i.2.2.1.2.1))) (e (a1, a, false))) (e (a1, a, false))
noncomputable def znx := lk (α := HK) [(26, me [vi 1, (5, .v (.ref zlh)), vb 22] [] 0)]
theorem zh2 (nn : Nat) : qk 241 ⟨[(.sl jl), I6], L6, fun t => zed nn (t.1) (t.2)⟩ := mk1 Tryz.func241 nn 0 [(0, [9])] [] [] [] itn znx rn gn (tc (Qv nn) tn) (by kernel_rfl) fun t => by kernel_rfl
noncomputable def Vy (nn : Nat) (a0 : (List Int)) (a1 : Int) : Option (List Int) := ja (some (a0.length : Int)) fun a => ja (mkO 8 a) fun b => jr (σ := (List Int) × Int × Int × Int × (List Int)) (fun (c, d, e, f, g) h => ifB (decide (f < e)) (ja (atL c f) fun i => ja (qn g.length f) fun j => ja (zx g j (w64 (i + d))) fun k => ja (some (w64 (f + 1))) fun l => h (c, d, e, l, k)) (some g)) nn (a0, a1, (a0.length : Int), 0, (replicate b (0 : Int)))
noncomputable def znz := lk (α := HK) [(58, me [vl 0, vi 1, vo 5 0, vi 11, vi 12] [.row 3 I6] 1)]
theorem zhb (nn : Nat) : FFOk 240 ⟨[L6, I6], 3, I6, fun t => Vy nn (t.1) (t.2)⟩ := mk2 Tryz.func240 nn 0 [(0, [8, 24])] [] [] [] itn znz rn gn tn (by kernel_rfl) fun t => by kernel_rfl
theorem zg5 (nn : Nat) : qk 240 ⟨[L6, I6], L6, fun t => Vy nn (t.1) (t.2)⟩ := (zhb nn).pure
noncomputable def zf3 (nn : Nat) (a0 : (List js)) : Option (List Int) := ja (V6 nn a0) fun a => ifB (!a.isNone) (ja (a) fun b => some b.2.2.1.1.1) (some [])
theorem zjp (nn : Nat) : qk 242 ⟨[(.sl jl)], L6, fun t => zf3 nn t⟩ := mk1 Tryz.func242 nn 0 [] [] [] [] itn h0 rn gn (tc (Qv nn) tn) (by kernel_rfl) fun t => by kernel_rfl
noncomputable def ziq (nn : Nat) (a0 : (List qy)) : Option qp := jr (σ := (List qy) × Int × Int × (List (Arr 4 Int)) × (List Int) × (List Bool) × (List (List Int)) × (List Int) × (List (Arr 4 Int)) × (List Int) × (List Bool) × (List (List Int)) × (List Int)) (fun (a, b, c, d, e, f, g, h, i, j, k, l, m) n => ifB (decide (c < b)) (ja (atL a c) fun o => ja (some (i.length : Int)) fun p => ja (ziv nn o.2.1) fun q => ja (ziu nn o.2.1) fun r => jr (σ := (List qy) × Int × (List js) × Int × (List Int) × Int × Int × (List (Arr 4 Int)) × Int × Int × (List (Arr 4 Int)) × (List Int) × (List Bool) × (List (List Int)) × (List Int) × (List (Arr 4 Int)) × (List Int) × (List Bool) × (List (List Int)) × (List Int)) (fun (s, u, v, w, x, y, z, b0, b1, b2, b3, b4, b5, b6, b7, b8, b9, c0, c1, c2) c3 => ifB (decide (b2 < b1)) (ja (atL b0 b2) fun c4 => ja (apO 32 b8 [c4]) fun c5 => ja (apO 8 b9 [u]) fun c6 => ja (zkr nn x b2) fun c7 => ja (apO 1 c0 [c7]) fun c8 => ja (zed nn v b2) fun c9 => ja (Vy nn c9 w) fun d0 => ja (apO 24 c1 [d0]) fun d1 => ja (some (w64 (b2 + 1))) fun d2 => c3 (s, u, v, w, x, y, z, b0, b1, d2, b3, b4, b5, b6, b7, c5, c6, c8, d1, c2)) (ja (zf3 nn v) fun d3 => ja (Vy nn d3 w) fun d4 => ja (apO 8 c2 d4) fun d5 => ja (some (w64 (z + 1))) fun d6 => n (s, y, d6, b3, b4, b5, b6, b7, b8, b9, c0, c1, d5))) nn (a, c, o.2.1, p, q, b, c, r, (r.length : Int), 0, d, e, f, g, h, i, j, k, l, m)) (some (i, j, k, l, m, ()))) nn (a0, (a0.length : Int), 0, [], [], [], [], [], [], [], [], [], [])
noncomputable def zr6 := lk (α := HK) [(58, me [(0, .v (.sl qq)), vp 2 0, vp 3 1, vi 11, vi 12] [.box 158 [.own 2, .own 3, .own 4, .own 5, .own 6], .box 158 [.own 7, .own 8, .own 9, .own 10, .own 11], .row 140 (.arr 4 (.int .u64)), .row 3 I6, .row 4 .bool, .row 30 L6, .row 3 I6, .row 140 (.arr 4 (.int .u64)), .row 3 I6, .row 4 .bool, .row 30 L6, .row 3 I6] 12), (119610, me [(0, .v (.sl qq)), vp 2 0, vp 3 1, vi 4, (5, .v (.sl jl)), vi 6, vl 7, vi 11, vi 12, (26, .v (.sl (.arr 4 (.int .u64)))), vi 27, vi 28] [.box 158 [.own 2, .own 3, .own 4, .own 5, .own 6], .box 158 [.own 7, .own 8, .own 9, .own 10, .own 11], .row 140 (.arr 4 (.int .u64)), .row 3 I6, .row 4 .bool, .row 30 L6, .row 3 I6, .row 140 (.arr 4 (.int .u64)), .row 3 I6, .row 4 .bool, .row 30 L6, .row 3 I6] 12)]
theorem zll (nn : Nat) : qk 186 ⟨[(.sl qq)], qm, fun t => ziq nn t⟩ := mk1 Tryz.func186 nn 0 [(0, [22, 63, 72])] [(0, [(36, .told (.arr 4 (.int .u64))), (42, .told I6), (50, .told .bool), (60, .told L6)])] [] [] itn zr6 rn gn (tc (zml nn) (tc (zmy nn) (tc (znu nn) (tc (zg5 nn) (tc (zh2 nn) (tc (zjp nn) tn)))))) (by kernel_rfl) fun t => by kernel_rfl
noncomputable def zgm (nn : Nat) (a0 : (List Int)) : Option Bool := jr (σ := (List Int) × Int × Int) (fun (a, b, c) d => ifB (decide (c < b)) (ja (atL a c) fun e => ja (atL a (w64 (c + 1))) fun f => ifB (decide (f ≤ e)) (some false) (ja (some (w64 (c + 1))) fun g => d (a, b, g))) (some true)) nn (a0, w64 ((a0.length : Int) - 1), 0)
noncomputable def zrd := lk (α := HK) [(26, me [vl 0, vi 6, vi 7] [] 0)]
theorem zkc (nn : Nat) : qk 297 ⟨[L6], .bool, fun t => zgm nn t⟩ := mk1 Tryz.func297 nn 0 [(0, [20])] [] [] [] itn zrd rn gn tn (by kernel_rfl) fun t => by kernel_rfl
noncomputable def zbj (nn : Nat) (a0 : Int) (a1 : (List (List Int))) : Option Bool := jr (σ := Int × (List (List Int)) × Int × Int) (fun (a, b, c, d) e => ifB (decide (d < c)) (ja (atL b d) fun f => J (σ := Int × (List (List Int)) × Int × Int × Bool) (fun (g, h, i, j, k) => ifB k (some false) (ja (some (w64 (j + 1))) fun m => e (g, h, i, m))) fun l => ja (zgm nn f) fun n => ja (some (!n)) fun o => ifB o (l (a, b, c, d, true)) (ja (some (decide (0 < (f.length : Int)))) fun p => ifB p (ja (atL f 0) fun q => ja (some (decide (q < 0))) fun r => ifB r (l (a, b, c, d, true)) (ja (atL f (w64 ((f.length : Int) - 1))) fun s => l (a, b, c, d, decide (a ≤ s)))) (l (a, b, c, d, false)))) (some true)) nn (a0, a1, (a1.length : Int), 0)
noncomputable def zpq := lk (α := HK) [(26, me [vi 0, (7, .v M6), vi 8, vi 9] [] 0), (3378, me [vi 0, (7, .v M6), vi 8, vi 9, vb 36] [] 0)]
theorem zj9 (nn : Nat) : qk 276 ⟨[I6, M6], .bool, fun t => zbj nn (t.1) (t.2)⟩ := mk1 Tryz.func276 nn 0 [(0, [15, 19, 24, 37])] [] [] [] itn zpq rn gn (tc (zkc nn) tn) (by kernel_rfl) fun t => by kernel_rfl
noncomputable def Qz (nn : Nat) (a0 : qp) : Option Bool := ja (some (a0.1.length : Int)) fun a => J (σ := Int × Bool × qp) (fun (b, c, d) => ifB c (some false) (jr (σ := Int × (List Int) × Int × Int × qp) (fun (f, g, h, i, j) k => ifB (decide (i < h)) (ja (atL g i) fun l => ifB (decide (l < 0)) (some false) (ja (some (w64 (i + 1))) fun m => k (f, g, h, m, j))) (J (fun (n : Bool) => some n) fun o => ja (zbj nn f [j.2.2.2.2.1]) fun p => ifB p (ja (zbj nn f j.2.2.2.1) fun q => o q) (o false))) nn (b, d.2.1, (d.2.1.length : Int), 0, d))) fun e => ja (some (decide (¬ (a0.2.1.length : Int) = a))) fun r => ifB r (e (a, true, a0)) (ifB (decide (¬ (a0.2.2.1.length : Int) = a)) (e (a, true, a0)) (e (a, decide (¬ (a0.2.2.2.1.length : Int) = a), a0)))
noncomputable def zq0 := lk (α := HK) [(28, me [vp 1 0, vi 3, vb 27] [.box 158 [.v qm]] 1), (62, me [vb 2] [] 0), (122, me [vp 1 0, vi 3, vl 29, vi 30, vi 31] [.box 158 [.v qm]] 1)]
theorem Qb (nn : Nat) : qk 229 ⟨[qm], .bool, fun t => Qz nn t⟩ := mk1 Tryz.func229 nn 0 [(0, [8, 13, 37])] [(0, [(41, .told L6)])] [] [] itn zq0 rn gn (tc (zj9 nn) tn) (by kernel_rfl) fun t => by kernel_rfl
noncomputable def zo5 (nn : Nat) (a0 : (List (Arr 4 Int))) : Option ((Arr 256 Int) × Int × Unit) := jr (σ := (List (Arr 4 Int)) × Int × Int × (Arr 256 Int) × (Arr 256 Int)) (fun (a, b, c, d, e) f => ifB (decide (c < b)) (ja (atL a c) fun g => ja (zbs nn e g) fun h => ja (some (w64 (c + 1))) fun i => f (a, b, i, d, h)) (ja (zbz nn e) fun j => some (e, j, ()))) nn (a0, (a0.length : Int), 0, ⟨replicate 256 0, wb4⟩, ⟨replicate 256 0, wb4⟩)
noncomputable def zyi := lk (α := HK) [(58, me [vp 2 0, vp 4 1, (7, .v (.sl (.arr 4 (.int .u64)))), vi 8, vi 9] [.box 28 [.v (.arr 256 U8)], .box 28 [.v (.arr 256 U8)]] 2)]
theorem zrb (nn : Nat) : qk 230 ⟨[(.sl (.arr 4 (.int .u64)))], (.tup (.cons (.arr 256 U8) (.cons I6 .nil))), fun t => zo5 nn t⟩ := mk1 Tryz.func230 nn 0 [(0, [16])] [] [] [] itn zyi rn gn (tc (zb6 nn) (tc (zb5 nn) tn)) (by kernel_rfl) fun t => by kernel_rfl
noncomputable def ze4 (nn : Nat) (a0 : (List Int)) : Option (List UInt8) := jr (σ := (List Int) × Int × Int × (List Int)) (fun (a, b, c, d) e => ifB (decide (c < b)) (ja (atL a c) fun f => jr (σ := Int × Int × (List Int) × Int × Int × (List Int)) (fun (g, h, i, j, k, l) m => ifB (decide (0 ≤ h)) (ja (zyl .u64 (wr .u64 g) h) fun n => ja (apO 1 l [wr .u8 n]) fun o => ja (some (w64 (h - 8))) fun p => m (g, p, i, j, k, o)) (ja (some (w64 (k + 1))) fun q => e (i, j, q, l))) nn (f, 56, a, b, c, d)) (ja (b2s d) fun r => some r)) nn (a0, (a0.length : Int), 0, [])
noncomputable def zuo := lk (α := HK) [(58, me [vo 3 0, vl 7, vi 8, vi 9] [.row 5 U8] 1), (14950, me [vo 3 0, vi 5, vi 6, vl 7, vi 8, vi 9] [.row 5 U8] 1)]
theorem znp (nn : Nat) : qk 232 ⟨[L6], .str, fun t => ze4 nn t⟩ := mk1 Tryz.func232 nn 0 [(0, [16, 25])] [(0, [(23, .told U8)])] [] [] itn zuo rn gn tn (by kernel_rfl) fun t => by kernel_rfl
noncomputable def za8 (nn : Nat) (a0 : (Arr 256 Int)) (a1 : Int) : Option (List Int) := jr (σ := Int × Int × (Arr 256 Int) × (List Int)) (fun (a, b, c, d) e => ifB (decide (b < 256)) (J (σ := Int × Int × (Arr 256 Int) × (List Int)) (fun (f, g, h, i) => ja (some (w64 (g + 1))) fun k => e (f, k, h, i)) fun j => ja (qn 256 b) fun l => ja (atL c.l l) fun m => ifB (decide ((wr .i64 m) = a)) (ja (apO 1 d [wr .u8 b]) fun n => j (a, b, c, n)) (j (a, b, c, d))) (some d)) nn (a1, 0, a0, [])
noncomputable def zqy := lk (α := HK) [(58, me [vi 1, vp 2 0, vo 5 1, vi 7] [.box 28 [.v (.arr 256 U8)], .row 5 U8] 2), (934, me [vi 1, vp 2 0, vo 5 1, vi 7] [.box 28 [.v (.arr 256 U8)], .row 5 U8] 2)]
theorem zjv (nn : Nat) : FFOk 233 ⟨[(.arr 256 U8), I6], 5, U8, fun t => za8 nn (t.1) (t.2)⟩ := mk2 Tryz.func233 nn 0 [(0, [21])] [(0, [(19, .told U8)])] [] [] itn zqy rn gn tn (by kernel_rfl) fun t => by kernel_rfl
theorem zjs (nn : Nat) : qk 233 ⟨[(.arr 256 U8), I6], (.sl U8), fun t => za8 nn (t.1) (t.2)⟩ := (zjv nn).pure
noncomputable def zei (nn : Nat) (a0 : qp) (a1 : (List Int)) (a2 : Int) : Option (List Int) := jr (σ := Int × (List Int) × Int × Int × qp × (List Int)) (fun (a, b, c, d, e, f) g => ifB (decide (d < c)) (J (σ := Int × (List Int) × Int × Int × qp × (List Int)) (fun (h, i, j, k, l, m) => ja (some (w64 (k + 1))) fun o => g (h, i, j, o, l, m)) fun n => ja (atL b d) fun p => ja (zu1 .u8 a 64) fun q => ja (atL e.1 p) fun r => ja (atL r.l q) fun s => ja (zx3 .u8 a 64) fun u => ja (zyl .u64 s u) fun v => ifB (decide (¬ (andI .u64 v 1) = 0)) (ja (apO 8 f [p]) fun w => n (a, b, c, d, e, w)) (n (a, b, c, d, e, f))) (some f)) nn (a2, a1, (a1.length : Int), 0, a0, [])
noncomputable def znh := lk (α := HK) [(58, me [(2, .v U8), vp 3 0, vo 7 1, vl 10, vi 11, vi 12] [.box 158 [.v qm], .row 3 I6] 2), (934, me [(2, .v U8), vp 3 0, vo 7 1, vl 10, vi 11, vi 12] [.box 158 [.v qm], .row 3 I6] 2)]
theorem zat (nn : Nat) : FFOk 277 ⟨[qm, L6, U8], 3, I6, fun t => zei nn (t.1) (t.2.1) (t.2.2)⟩ := mk2 Tryz.func277 nn 0 [(0, [33])] [(0, [(31, .told I6)])] [] [] itn znh rn gn tn (by kernel_rfl) fun t => by kernel_rfl
noncomputable abbrev zen := zei
noncomputable def zbx (nn : Nat) (a0 : qp) (a1 : Int) : Option (List Int) := ja (Qz nn a0) fun a => ifB (!a) (some []) (ja (zen nn a0 a0.2.2.2.2.1 a1) fun b => some b)
theorem zjc (nn : Nat) : FFOk 234 ⟨[qm, U8], 3, I6, fun t => zbx nn (t.1) (t.2)⟩ := mk2 Tryz.func234 nn 0 [] [] [] [196] itn h0 rn (gc (zat nn) gn) (tc (Qb nn) tn) (by kernel_rfl) fun t => by kernel_rfl
theorem zjj (nn : Nat) : qk 234 ⟨[qm, U8], L6, fun t => zbx nn (t.1) (t.2)⟩ := (zjc nn).pure
noncomputable def zon (nn : Nat) (a0 : qp) (a1 : (List Int)) (a2 : Int) : Option (List Int) := jr (σ := Int × (List Int) × (List Int) × Int × Int × qp) (fun (a, b, c, d, e, f) g => ifB (decide (e < d)) (J (σ := Int × (List Int) × (List Int) × Int × Int × qp) (fun (h, i, j, k, l, m) => ja (some (w64 (l + 1))) fun o => g (h, i, j, k, o, m)) fun n => ja (atL c e) fun p => J (σ := Int × (List Int) × Int × (List Int) × Int × Int × Bool × qp) (fun (q, r, s, u, v, w, x, y) => ifB x (ja (atL y.2.2.2.1 s) fun b0 => ja (Jp nn r b0) fun b1 => n (q, b1, u, v, w, y)) (n (q, r, u, v, w, y))) fun z => ja (some (decide (0 ≤ p))) fun b2 => ifB b2 (z (a, b, p, c, d, e, decide (p < (f.2.2.2.1.length : Int)), f)) (z (a, b, p, c, d, e, false, f))) (ja (zen nn f b a) fun b3 => some b3)) nn (a2, [], a1, (a1.length : Int), 0, a0)
noncomputable def zx4 := lk (α := HK) [(58, me [(2, .v U8), vp 3 0, vl 7, vl 10, vi 11, vi 12] [.box 158 [.v qm]] 1), (934, me [(2, .v U8), vp 3 0, vl 7, vl 10, vi 11, vi 12] [.box 158 [.v qm]] 1), (7474, me [(2, .v U8), vp 3 0, vl 7, vi 9, vl 10, vi 11, vi 12, vb 24] [.box 158 [.v qm]] 1)]
theorem zrg (nn : Nat) : FFOk 278 ⟨[qm, L6, U8], 3, I6, fun t => zon nn (t.1) (t.2.1) (t.2.2)⟩ := mk2 Tryz.func278 nn 0 [(0, [17, 32])] [] [] [515] itn zx4 rn (gc (zat nn) gn) (tc (zcg nn) tn) (by kernel_rfl) fun t => by kernel_rfl
noncomputable abbrev zyr := zon
noncomputable def zc3 (nn : Nat) (a0 : qp) (a1 : (List Int)) (a2 : Int) : Option (List Int) := ja (Qz nn a0) fun a => ifB (!a) (some []) (ja (zyr nn a0 a1 a2) fun b => some b)
theorem zk7 (nn : Nat) : FFOk 235 ⟨[qm, L6, U8], 3, I6, fun t => zc3 nn (t.1) (t.2.1) (t.2.2)⟩ := mk2 Tryz.func235 nn 0 [] [] [] [195] itn h0 rn (gc (zrg nn) gn) (tc (Qb nn) tn) (by kernel_rfl) fun t => by kernel_rfl
theorem zlw (nn : Nat) : qk 235 ⟨[qm, L6, U8], L6, fun t => zc3 nn (t.1) (t.2.1) (t.2.2)⟩ := (zk7 nn).pure
noncomputable def zgn (nn : Nat) (a0 : qp) (a1 : (List Int)) : Option Int := ja (Qz nn a0) fun a => ifB (!a) (some (-1)) (jr (σ := Int × (List Int) × Int × Int × qp) (fun (b, c, d, e, f) g => ifB (decide (e < d)) (J (σ := Int × (List Int) × Int × Int × qp) (fun (h, i, j, k, l) => ja (some (w64 (k + 1))) fun n => g (h, i, j, n, l)) fun m => ja (atL c e) fun o => J (σ := Int × Int × (List Int) × Int × Int × Bool × qp) (fun (p, q, r, s, u, v, w) => ifB v (m (p, r, s, u, w)) (J (σ := Int × Int × (List Int) × Int × Int × qp) (fun (y, z, b0, b1, b2, b3) => ja (atL b3.2.1 z) fun b5 => ja (some (min y b5)) fun b6 => m (b6, b0, b1, b2, b3)) fun b4 => ifB (decide (p < 0)) (ja (atL w.2.1 q) fun b7 => b4 (b7, q, r, s, u, w)) (b4 (p, q, r, s, u, w)))) fun x => ja (some (decide (o < 0))) fun b8 => ifB b8 (x (b, o, c, d, e, true, f)) (ifB (decide ((f.2.1.length : Int) ≤ o)) (x (b, o, c, d, e, true, f)) (ja (atL f.2.2.1 o) fun b9 => x (b, o, c, d, e, !b9, f)))) (some b)) nn ((-1), a1, (a1.length : Int), 0, a0))
noncomputable def zq4 := lk (α := HK) [(122, me [vp 2 0, vi 5, vl 12, vi 13, vi 14] [.box 158 [.v qm]] 1), (1958, me [vp 2 0, vi 5, vl 12, vi 13, vi 14] [.box 158 [.v qm]] 1), (15667, me [vp 2 0, vi 5, vi 7, vl 12, vi 13, vi 14] [.box 158 [.v qm]] 1), (31332, me [vp 2 0, vi 5, vi 7, vl 12, vi 13, vi 14, vb 34] [.box 158 [.v qm]] 1)]
theorem zj8 (nn : Nat) : qk 236 ⟨[qm, L6], I6, fun t => zgn nn (t.1) (t.2)⟩ := mk1 Tryz.func236 nn 0 [(0, [19, 48, 49])] [] [] [] itn zq4 rn gn (tc (Qb nn) tn) (by kernel_rfl) fun t => by kernel_rfl
noncomputable def zie (nn : Nat) (a0 : qp) (a1 : Int) : Option (jw × Int × Int × Unit) := ja (Qz nn a0) fun a => ifB (!a) (some ((⟨replicate 256 0, wb4⟩, 0, [], [], ()), 0, 3, ())) (J (σ := Int × Bool × qp × (Arr 256 Int) × Int × (List (List Int)) × (List Int)) (fun (b, c, d, e, f, g, h) => ifB c (some ((⟨replicate 256 0, wb4⟩, 0, [], [], ()), 0, 2, ())) (ja (zo5 nn d.1) fun j => jr (σ := Int × Int × qp × (Arr 256 Int) × Int × (Arr 256 Int) × Int × (List (List Int)) × (List Int) × (List (List Int)) × (List Int) × (List (List Int)) × (List ((List UInt8) × Int × Unit))) (fun (k, l, m, n, o, p, q, r, s, u, v, w, x) y => ifB (decide (l < (w.length : Int))) (ja (mkO 8 q) fun z => jr (σ := Int × Int × Int × Int × qp × (Arr 256 Int) × Int × (Arr 256 Int) × Int × (List Int) × (List (List Int)) × (List Int) × (List (List Int)) × (List Int) × (List (List Int)) × (List ((List UInt8) × Int × Unit))) (fun (b0, b1, b2, b3, b4, b5, b6, b7, b8, b9, c0, c1, c2, c3, c4, c5) c6 => ifB (decide (b3 < b2)) (ja (za8 nn b7 b3) fun c7 => ja (atL c7 0) fun c8 => J (σ := Int × Int × Int × Int × qp × (Arr 256 Int) × Int × (Arr 256 Int) × Int × (List Int) × (List (List Int)) × (List Int) × (List (List Int)) × (List Int) × (List (List Int)) × (List ((List UInt8) × Int × Unit))) (fun (c9, d0, d1, d2, d3, d4, d5, d6, d7, d8, d9, e0, e1, e2, e3, e4) => ifB (decide (c9 < (e3.length : Int))) (some ((⟨replicate 256 0, wb4⟩, 0, [], [], ()), 0, 16, ())) (ja (some (w64 (d2 + 1))) fun e6 => c6 (c9, d0, d1, e6, d3, d4, d5, d6, d7, d8, d9, e0, e1, e2, e3, e4))) fun e5 => ifB (decide (b1 = 0)) (J (σ := Int × Int × Int × Int × qp × (Arr 256 Int) × Int × (Arr 256 Int) × Int × (List Int) × (List (List Int)) × (List Int) × (List (List Int)) × (List Int) × (List (List Int)) × (List ((List UInt8) × Int × Unit))) (fun (e7, e8, e9, f0, f1, f2, f3, f4, f5, f6, f7, f8, f9, g0, g1, g2) => e5 (e7, e8, e9, f0, f1, f2, f3, f4, f5, f6, f7, f8, f9, g0, g1, g2)) fun g3 => ja (zbx nn b4 c8) fun g4 => ifB (decide ((g4.length : Int) = 0)) (ja (qn b9.length b3) fun g5 => ja (zx b9 g5 (-1)) fun g6 => g3 (b0, b1, b2, b3, b4, b5, b6, b7, b8, g6, c0, c1, c2, c3, c4, c5)) (ja (ze4 nn g4) fun g7 => ja (some (zgr zw6 c5 g7)) fun g8 => J (σ := Int × (List ((List UInt8) × Int × Unit)) × (List (List Int))) (fun (g9, h0, h1) => ja (qn b9.length b3) fun h3 => ja (zx b9 h3 g9) fun h4 => g3 (b0, b1, b2, b3, b4, b5, b6, b7, b8, h4, c0, c1, c2, c3, h1, h0)) fun h2 => ifB (!g8.isSome) (ja (some (c4.length : Int)) fun h5 => ja (some (zis zw6 c5 g7 h5)) fun h6 => ja (apO 24 c4 [g4]) fun h7 => h2 (h5, h6, h7)) (h2 (gD 0 g8, c5, c4)))) (J (σ := Int × Int × Int × Int × qp × (Arr 256 Int) × Int × (Arr 256 Int) × Int × (List Int) × (List (List Int)) × (List Int) × (List (List Int)) × (List Int) × (List (List Int)) × (List ((List UInt8) × Int × Unit))) (fun (h8, h9, i0, i1, i2, i3, i4, i5, i6, i7, i8, i9, j0, j1, j2, j3) => e5 (h8, h9, i0, i1, i2, i3, i4, i5, i6, i7, i8, i9, j0, j1, j2, j3)) fun j4 => ja (qn c4.length b1) fun j5 => ja (atL c4 j5) fun j6 => ja (zc3 nn b4 j6 c8) fun j7 => ifB (decide ((j7.length : Int) = 0)) (ja (qn b9.length b3) fun j8 => ja (zx b9 j8 (-1)) fun j9 => j4 (b0, b1, b2, b3, b4, b5, b6, b7, b8, j9, c0, c1, c2, c3, c4, c5)) (ja (ze4 nn j7) fun k0 => ja (some (zgr zw6 c5 k0)) fun k1 => J (σ := Int × (List ((List UInt8) × Int × Unit)) × (List (List Int))) (fun (k2, k3, k4) => ja (qn b9.length b3) fun k6 => ja (zx b9 k6 k2) fun k7 => j4 (b0, b1, b2, b3, b4, b5, b6, b7, b8, k7, c0, c1, c2, c3, k4, k3)) fun k5 => ifB (!k1.isSome) (ja (some (c4.length : Int)) fun k8 => ja (some (zis zw6 c5 k0 k8)) fun k9 => ja (apO 24 c4 [j7]) fun l0 => k5 (k8, k9, l0)) (k5 (gD 0 k1, c5, c4))))) (ja (apO 24 c2 [b9]) fun l1 => ja (qn c4.length b1) fun l2 => ja (atL c4 l2) fun l3 => ja (zgn nn b4 l3) fun l4 => ja (apO 8 c3 [l4]) fun l5 => ja (some (w64 (b1 + 1))) fun l6 => y (b0, l6, b4, b5, b6, b7, b8, c0, c1, l1, l5, c4, c5))) nn (k, l, ((replicate z (0 : Int)).length : Int), 0, m, n, o, p, q, (replicate z (0 : Int)), r, s, u, v, w, x)) (some ((p, q, u, v, ()), (w.length : Int), 0, ()))) nn (b, 0, d, e, f, j.1, j.2.1, g, h, [], [], [[]], []))) fun i => ja (some (decide (a1 < 1))) fun l7 => ifB l7 (i (a1, true, a0, ⟨replicate 256 0, wb4⟩, 0, [], [])) (i (a1, decide (4096 < a1), a0, ⟨replicate 256 0, wb4⟩, 0, [], [])))
noncomputable def zto := lk (α := HK) [(102, me [vi 1, vp 2 0, vp 4 1, vb 20] [.box 158 [.v qm], .box 32 [.v (.arr 256 U8), .v I6, .own 2, .own 3], .row 30 L6, .row 3 I6] 4), (1018, me [vi 1, vp 2 0, vp 4 1, vp 7 2, vp 8 3, (10, .fn 231 [] [.pt 4 0, .pt 3 0]), vi 11] [.box 158 [.v qm], .box 32 [.v (.arr 256 U8), .v I6, .own 5, .own 6], .box 32 [.v (.arr 256 U8), .v I6, .own 7, .own 8], .box 29 [.own 9], .box 287 [.own 10], .row 30 L6, .row 3 I6, .row 30 L6, .row 3 I6, .row 30 L6, .obj (.mp .str I6)] 11), (260682, me [vi 1, vp 2 0, vp 4 1, vp 7 2, vp 8 3, (10, .fn 231 [] [.pt 4 0, .pt 3 0]), vi 11, vo 12 5, vi 49, vi 50] [.box 158 [.v qm], .box 32 [.v (.arr 256 U8), .v I6, .own 6, .own 7], .box 32 [.v (.arr 256 U8), .v I6, .own 8, .own 9], .box 29 [.own 10], .box 287 [.own 11], .row 3 I6, .row 30 L6, .row 3 I6, .row 30 L6, .row 3 I6, .row 30 L6, .obj (.mp .str I6)] 12), (33367347, me [vi 1, vp 2 0, vp 4 1, vp 7 2, vp 8 3, (10, .fn 231 [] [.pt 4 0, .pt 3 0]), vi 11, vo 12 5, vi 49, vi 50] [.box 158 [.v qm], .box 32 [.v (.arr 256 U8), .v I6, .own 6, .own 7], .box 32 [.v (.arr 256 U8), .v I6, .own 8, .own 9], .box 29 [.own 10], .box 287 [.own 11], .row 3 I6, .row 30 L6, .row 3 I6, .row 30 L6, .row 3 I6, .row 30 L6, .obj (.mp .str I6)] 12), (266938778, me [vi 1, vp 2 0, vp 4 1, vp 7 2, vp 8 3, (10, .fn 231 [] [.pt 4 0, .pt 3 0]), vi 11, vo 12 5, vi 49, vi 50] [.box 158 [.v qm], .box 32 [.v (.arr 256 U8), .v I6, .own 6, .own 7], .box 32 [.v (.arr 256 U8), .v I6, .own 8, .own 9], .box 29 [.own 10], .box 287 [.own 11], .row 3 I6, .row 30 L6, .row 3 I6, .row 30 L6, .row 3 I6, .row 30 L6, .obj (.mp .str I6)] 12), (266938779, me [vi 1, vp 2 0, vp 4 1, vp 7 2, vp 8 3, (10, .fn 231 [] [.pt 4 0, .pt 3 0]), vi 11, vo 12 5, vi 49, vi 50] [.box 158 [.v qm], .box 32 [.v (.arr 256 U8), .v I6, .own 6, .own 7], .box 32 [.v (.arr 256 U8), .v I6, .own 8, .own 9], .box 29 [.own 10], .box 287 [.own 11], .row 3 I6, .row 30 L6, .row 3 I6, .row 30 L6, .row 3 I6, .row 30 L6, .obj (.mp .str I6)] 12)]
noncomputable def zln := lk (α := HK) [(31, me [vi 6] [.box 287 [.own 1], .obj (.mp .str I6), .box 29 [.own 3], .row 30 L6] 4)]
noncomputable def zkq := lk (α := HK) [(31, me [vi 6] [.box 287 [.own 1], .obj (.mp .str I6), .box 29 [.own 3], .row 30 L6] 4)]
theorem zm8 (nn : Nat) : qk 185 ⟨[qm, I6], (.tup (.cons jp (.cons I6 (.cons I6 .nil)))), fun t => zie nn (t.1) (t.2)⟩ := mk1 Tryz.func185 nn 9 [(0, [22, 44, 86]), (1, [22]), (2, [22])] [(0, [(36, .own L6), (90, .ownx), (101, .told I6)]), (1, [(28, .told L6)]), (2, [(28, .told L6)])] [(1476, [(90, M6)])] [] (itc 11580231 Tryz.func231 zln 1 [3] (itc 12260231 Tryz.func231 zkq 2 [3] itn (by kernel_rfl)) (by kernel_rfl)) zto rn gn (tc (Qb nn) (tc (zrb nn) (tc (znp nn) (tc (zjs nn) (tc (zjj nn) (tc (zlw nn) (tc (zj8 nn) tn))))))) (by kernel_rfl) fun t => by kernel_rfl
noncomputable def zdr (nn : Nat) (a0 : jw) (a1 : Int) : Option (List Int) := ja (atL a0.2.2.1 a1) fun a => jr (σ := (List Int) × Int × Int × (List Int)) (fun (b, c, d, e) f => ifB (decide (d < c)) (J (σ := (List Int) × Int × Int × (List Int)) (fun (g, h, i, j) => ja (some (w64 (i + 1))) fun l => f (g, h, l, j)) fun k => ja (atL b d) fun m => ifB (decide (0 ≤ m)) (ja (apO 8 e [m]) fun n => k (b, c, d, n)) (k (b, c, d, e))) (some e)) nn (a, (a.length : Int), 0, [])
noncomputable def zyn := lk (α := HK) [(58, me [vo 5 0, vl 12, vi 13, vi 14] [.row 3 I6] 1), (934, me [vo 5 0, vl 12, vi 13, vi 14] [.row 3 I6] 1)]
theorem zqq (nn : Nat) : FFOk 194 ⟨[jp, I6], 3, I6, fun t => zdr nn (t.1) (t.2)⟩ := mk2 Tryz.func194 nn 0 [(0, [24])] [(0, [(22, .told I6)])] [] [] itn zyn rn gn tn (by kernel_rfl) fun t => by kernel_rfl
theorem zgl (nn : Nat) : qk 194 ⟨[jp, I6], L6, fun t => zdr nn (t.1) (t.2)⟩ := (zqq nn).pure
noncomputable def Q9 (nn : Nat) (a0 : jw) : Option (List Bool) := ja (Ql nn a0) fun a => ifB (!a) (some []) (ja (mkO 1 (a0.2.2.1.length : Int)) fun b => ja (Jn ([0] : List Int) ([0] : List Int)) fun c => jr (σ := (List Int) × Int × Int × jw × (List Bool) × (List Int)) (fun (d, e, f, g, h, i) j => ifB (decide (f < e)) (ja (atL d f) fun k => ja (qn h.length k) fun l => ja (zx h l true) fun m => ja (some (w64 (f + 1))) fun n => j (d, e, n, g, m, i)) (jr (σ := jw × (List Bool) × (List Int)) (fun (o, p, q) r => ifB (decide (0 < (q.length : Int))) (ja (qn q.length 0) fun s => ja (atL q s) fun u => ja (zu2 q 1) fun v => ja (zdr nn o u) fun w => jr (σ := (List Int) × Int × Int × jw × (List Bool) × (List Int)) (fun (x, y, z, b0, b1, b2) b3 => ifB (decide (z < y)) (J (σ := (List Int) × Int × Int × jw × (List Bool) × (List Int)) (fun (b4, b5, b6, b7, b8, b9) => ja (some (w64 (b6 + 1))) fun c1 => b3 (b4, b5, c1, b7, b8, b9)) fun c0 => ja (atL x z) fun c2 => ja (qn b1.length c2) fun c3 => ja (atL b1 c3) fun c4 => ifB (!c4) (ja (qn b1.length c2) fun c5 => ja (zx b1 c5 true) fun c6 => ja (apO 8 b2 [c2]) fun c7 => c0 (x, y, z, b0, c6, c7)) (c0 (x, y, z, b0, b1, b2))) (r (b0, b1, b2))) nn (w, (w.length : Int), 0, o, p, (q.drop v))) (some p)) nn (g, h, i))) nn ([0], ([0].length : Int), 0, a0, (replicate b false), c))
noncomputable def zfl := lk (α := HK) [(122, me [(2, .fn 193 [] [.pt 0 0]), vo 7 1, vo 8 2, vl 18, vi 19, vi 20] [.box 32 [.v jp], .row 4 .bool, .row 3 I6] 3), (124, me [(2, .fn 193 [] [.pt 0 0]), vo 7 1, vo 8 2] [.box 32 [.v jp], .row 4 .bool, .que 3 I6] 3), (15918, me [(2, .fn 193 [] [.pt 0 0]), vo 7 1, vo 8 2, vl 38, vi 39, vi 40] [.box 32 [.v jp], .row 4 .bool, .que 3 I6] 3), (254694, me [(2, .fn 193 [] [.pt 0 0]), vo 7 1, vo 8 2, vl 38, vi 39, vi 40] [.box 32 [.v jp], .row 4 .bool, .que 3 I6] 3)]
theorem zgo (nn : Nat) : FFOk 151 ⟨[jp], 4, .bool, fun t => Q9 nn t⟩ := mk2 Tryz.func151 nn 9 [(1, [27, 56])] [(0, [(9, .told I6)]), (1, [(35, .que), (54, .told I6)])] [] [] (itc 1970192 Tryz.func192 zfl 1 [] (itc 10007060193 Tryz.func193 h0 2 [] itn (by kernel_rfl)) (by kernel_rfl)) h0 rn gn (tc (Q1 nn) (tc (zgl nn) tn)) (by kernel_rfl) fun t => by kernel_rfl
theorem Z6 (nn : Nat) : qk 151 ⟨[jp], LB, fun t => Q9 nn t⟩ := (zgo nn).pure
noncomputable def Vx (nn : Nat) (a0 : jw) : Option (List Int) := ja (Q9 nn a0) fun a => jr (σ := (List Bool) × Int × Int × jw × (List Int)) (fun (b, c, d, e, f) g => ifB (decide (d < c)) (J (σ := (List Bool) × Int × Int × jw × (List Int)) (fun (h, i, j, k, l) => ja (some (w64 (j + 1))) fun n => g (h, i, n, k, l)) fun m => ja (atL b d) fun o => J (σ := Int × (List Bool) × Int × Int × Bool × jw × (List Int)) (fun (p, q, r, s, u, v, w) => ifB u (ja (atL v.2.2.2.1 p) fun y => ja (apO 8 w [y]) fun z => m (q, r, s, v, z)) (m (q, r, s, v, w))) fun x => ifB o (ja (atL e.2.2.2.1 d) fun b0 => x (d, b, c, d, decide (0 ≤ b0), e, f)) (x (d, b, c, d, false, e, f))) (ja (Jn f (zcc f)) fun b1 => ja (Jn b1 (zaq b1)) fun b2 => some b2)) nn (a, (a.length : Int), 0, a0, [])
noncomputable def znt := lk (α := HK) [(58, me [vp 1 0, vo 3 1, (7, .v LB), vi 8, vi 9] [.box 32 [.v jp], .row 3 I6] 2), (934, me [vp 1 0, vo 3 1, (7, .v LB), vi 8, vi 9] [.box 32 [.v jp], .row 3 I6] 2), (7474, me [vp 1 0, vo 3 1, vi 4, (7, .v LB), vi 8, vi 9, vb 22] [.box 32 [.v jp], .row 3 I6] 2)]
theorem zgx (nn : Nat) : FFOk 187 ⟨[jp], 3, I6, fun t => Vx nn t⟩ := mk2 Tryz.func187 nn 0 [(0, [31])] [(0, [(29, .told I6)])] [] [] itn znt rn gn (tc (Z6 nn) tn) (by kernel_rfl) fun t => by kernel_rfl
theorem zg3 (nn : Nat) : qk 187 ⟨[jp], L6, fun t => Vx nn t⟩ := (zgx nn).pure
noncomputable def Jr (nn : Nat) (a0 : (List Int)) (a1 : Int) : Option Int := jr (σ := (List Int) × Int × Int × Int) (fun (a, b, c, d) e => ifB (decide (d < c)) (ja (atL a d) fun f => ifB (decide (b = f)) (some d) (ja (some (w64 (d + 1))) fun g => e (a, b, c, g))) (some (-1))) nn (a0, a1, (a0.length : Int), 0)
noncomputable def Zs := lk (α := HK) [(26, me [vl 0, vi 1, vi 7, vi 8] [] 0)]
theorem Yi (nn : Nat) : qk 245 ⟨[L6, I6], I6, fun t => Jr nn (t.1) (t.2)⟩ := mk1 Tryz.func245 nn 0 [(0, [18])] [] [] [] itn Zs rn gn tn (by kernel_rfl) fun t => by kernel_rfl
noncomputable def zh (nn : Nat) (a0 : (List Int)) (a1 : Int) : Option Bool := ja (Jr nn a0 a1) fun a => some (decide (0 ≤ a))
theorem Vf (nn : Nat) : qk 189 ⟨[L6, I6], .bool, fun t => zh nn (t.1) (t.2)⟩ := mk1 Tryz.func189 nn 0 [] [] [] [] itn h0 rn gn (tc (Yi nn) tn) (by kernel_rfl) fun t => by kernel_rfl
noncomputable def za (nn : Nat) (a0 : (Option y2)) : Option jm := ja (a0) fun a => ja (Vx nn a.2.1) fun b => J (fun (c : jm) => some c) fun d => ja (a0) fun e => jr (σ := Int × Int × Int × Int × (List Int) × jm) (fun (f, g, h, i, j, k) l => ifB (decide (i < h)) (ja (zh nn j i) fun m => ifB (!m) (d (f, i, g, ())) (ja (some (w64 (i + 1))) fun n => l (f, g, h, n, j, k))) (d (0, 0, 0, ()))) nn (13, 1, (e.1.1.length : Int), 0, b, (0, 0, 0, ()))
noncomputable def zal := lk (α := HK) [(14, me [vp 2 0] [.box 25 [.v jq]] 1)]
noncomputable def Zh := lk (α := HK) [(26, me [vi 1, vi 2, (3, .fn 188 [] [.pt 0 0]), vp 8 1, vi 10, vi 11] [.box 30 [.v L6], .box 25 [.v jq]] 2)]
theorem Y7 (nn : Nat) : qk 147 ⟨[(.ref yz)], jq, fun t => za nn t⟩ := mk1 Tryz.func147 nn 9 [(1, [22])] [] [] [] (itc 1350135 Tryz.func135 Zh 1 [] (itc 10002580188 Tryz.func188 h0 2 [] itn (by kernel_rfl)) (by kernel_rfl)) zal rn gn (tc (zg3 nn) (tc (Vf nn) tn)) (by kernel_rfl) fun t => by kernel_rfl
def Jb : (Bool × (List (jb × (List Int) × Unit)) × jb × jb × (List Bool)) → Option MS := fun (b5, b6, b7, b8, b9) => some ⟨3, 1, 0, 1, jj, 3, I6, b6, 0, b9⟩
noncomputable def Jk (nn : Nat) : Nat → (Bool × (List (jb × (List Int) × Unit)) × jb × jb × (List Bool)) → Option (Bool × (List (jb × (List Int) × Unit)) × jb × jb × (List Bool)) := fun c0 (b5, b6, b7, b8, b9) => ja (zh0 b6 c0) fun c1 => J (σ := Bool × (List (jb × (List Int) × Unit)) × jb × jb × (List Bool)) (fun (c2, c3, c4, c5, c6) => some (c2, c3, c4, c5, c6)) fun c7 => ja (zl5 (b9.set c0 true) b6 c0) fun c8 => J (σ := Bool × Bool × (List (jb × (List Int) × Unit)) × jb × jb × jb × (List Bool)) (fun (c9, d0, d1, d2, d3, d4, d5) => ifB d0 (c7 (c9, d1, d2, d3, d5)) (c7 (true, d1, d2, d4, d5))) fun d6 => ja (atL (b6.map fun e => e.2.1) (c0 : Int)) fun d7 => ja (some (decide ((d7.length : Int) < 2))) fun d8 => ifB d8 (d6 (b5, true, b6, b7, b8, c8.1, (b9.set c0 true))) (ifB b5 (ja (some (decide (b8.1 < c8.1.1))) fun d9 => ifB d9 (d6 (b5, true, b6, b7, b8, c8.1, (b9.set c0 true))) (ja (some (decide (b8.1 = c8.1.1))) fun e0 => ifB e0 (d6 (b5, decide (b8.2.1 < c8.1.2.1), b6, b7, b8, c8.1, (b9.set c0 true))) (d6 (b5, false, b6, b7, b8, c8.1, (b9.set c0 true))))) (d6 (b5, false, b6, b7, b8, c8.1, (b9.set c0 true))))
def zf : ((List (List Int)) × (List Bool) × (List (jb × (List Int) × Unit))) → Option MS := fun (h9, i0, i1) => some ⟨1, 1, 2, 1, jj, 3, I6, i1, 0, i0⟩
noncomputable def qx (nn : Nat) : Nat → ((List (List Int)) × (List Bool) × (List (jb × (List Int) × Unit))) → Option ((List (List Int)) × (List Bool) × (List (jb × (List Int) × Unit))) := fun i2 (h9, i0, i1) => ja (zh0 i1 i2) fun i3 => ja (zl5 (i0.set i2 true) i1 i2) fun i4 => ja (qn h9.length i4.1.1) fun i5 => ja (atL h9 i5) fun i6 => ja (ja (atL (i1.map fun e => e.2.1) (i2 : Int)) fun i7 => qn i7.length 0) fun i8 => ja (ja (atL (i1.map fun e => e.2.1) (i2 : Int)) fun i9 => atL i9 i8) fun j0 => ja (ja (atL h9 i5) fun j1 => qn j1.length i4.1.2.1) fun j2 => ja (ja (atL h9 i5) fun j3 => ja (zx j3 j2 j0) fun j4 => some (h9.set i5.toNat j4)) fun j5 => some (j5, (i0.set i2 true), i1)
noncomputable def zdh (nn : Nat) (M0 : ((Bool × (List (jb × (List Int) × Unit)) × jb × jb × (List Bool)) → Option ((List (List Int)) × Int × Unit)) → (Bool × (List (jb × (List Int) × Unit)) × jb × jb × (List Bool)) → Option ((List (List Int)) × Int × Unit)) (M1 : (((List (List Int)) × (List Bool) × (List (jb × (List Int) × Unit))) → Option ((List (List Int)) × Int × Unit)) → ((List (List Int)) × (List Bool) × (List (jb × (List Int) × Unit))) → Option ((List (List Int)) × Int × Unit)) (a0 : jd) : Option ((List (List Int)) × Int × Unit) := ja (yi nn a0) fun a => ifB (!a) (some ([], 3, ())) (ja (za9 nn a0) fun b => jr (σ := (List (List Int)) × (List jk) × Int × Int × jd × (List (jb × (List Int) × Unit))) (fun (c, d, e, f, g, h) i => ifB (decide (f < e)) (ja (atL d f) fun j => ja (J9 nn g c j) fun k => jr (σ := (List (List Int)) × Int × (List jk) × Int × Int × (List Int) × Int × Int × jd × (List (jb × (List Int) × Unit)) × jk) (fun (l, m, n, o, p, q, r, s, u, v, w) x => ifB (decide (s < r)) (ja (atL q s) fun y => ja (z1a zmk (w.1, y, ()) v) fun z => ja (ja (atL (z.2.map fun e => e.2.1) (z.1 : Int)) fun b0 => apO 8 b0 [m]) fun b1 => ja (zxj z.2 ((z.1 : Int).toNat) (z.1 : Int) b1) fun b2 => ja (some (w64 (s + 1))) fun b3 => x (l, m, n, o, p, q, r, b3, u, b2, w)) (ja (some (w64 (p + 1))) fun b4 => i (l, n, o, b4, u, v))) nn (c, f, d, e, f, k, (k.length : Int), 0, g, h, j)) (M0 (fun (e1, e2, e3, e4, e5) => ifB e1 (some ([], 15, ())) (ja (some (a0.2.1.length : Int)) fun e6 => ja (mkO 24 e6) fun e7 => jr (σ := Int × Int × jd × (List (jb × (List Int) × Unit)) × (List (List Int))) (fun (e8, e9, f0, f1, f2) f3 => ifB (decide (e9 < e8)) (ja (some (w64 ((f0.1.length : Int) + 1))) fun f4 => ja (mkO 8 f4) fun f5 => ja (qn f2.length e9) fun f6 => ja (zx f2 f6 (replicate f5 (0 : Int))) fun f7 => ja (qn f7.length e9) fun f8 => ja (atL f7 f8) fun f9 => ja (atL f7 f8) fun g0 => jr (σ := Int × Int × Int × Int × Int × jd × (List (jb × (List Int) × Unit)) × (List (List Int))) (fun (g1, g2, g3, g4, g5, g6, g7, g8) g9 => ifB (decide (g5 < g4)) (ja (qn g8.length g1) fun h0 => ja (atL g8 h0) fun h1 => ja (ja (atL g8 h0) fun h2 => qn h2.length g5) fun h3 => ja (ja (atL g8 h0) fun h4 => ja (zx h4 h3 (-1)) fun h5 => some (g8.set h0.toNat h5)) fun h6 => ja (some (w64 (g5 + 1))) fun h7 => g9 (g1, g2, g3, g4, h7, g6, g7, h6)) (ja (some (w64 (g3 + 1))) fun h8 => f3 (g2, h8, g6, g7, g8))) nn (e9, e8, e9, (g0.length : Int), 0, f0, f1, f7)) (M1 (fun (j6, j7, j8) => some (j6, 0, ())) (f2, (replicate f1.length false), f1))) nn (((replicate e7 ([] : (List Int))).length : Int), 0, a0, e2, (replicate e7 ([] : (List Int)))))) (false, h, (0, 0, ()), (0, 0, ()), (replicate h.length false)))) nn (b, a0.2.2.1, (a0.2.2.1.length : Int), 0, a0, ([] : List (jb × List Int × Unit))))
noncomputable def J7 (nn : Nat) (a0 : jd) : Option ((List (List Int)) × Int × Unit) := zdh nn (zuz Jb (Jk nn)) (zuz zf (qx nn)) a0
noncomputable def Zr (nn : Nat) (a0 : jd) : Option ((List (List Int)) × Int × Unit) := zdh nn (mrC Jb (Jk nn)) (mrC zf (qx nn)) a0
theorem zcs (nn : Nat) : zlz Jb (Jk nn) := Yf nn
def Yk (out : List (List Int)) (r c v : Int) : Option (List (List Int)) := match out[r.toNat]? with
  | none => none
  | some row => match decide (0 ≤ r ∧ 0 ≤ c ∧ c.toNat < row.length) with
    | true => some (out.set r.toNat (row.set c.toNat v))
    | false => none
theorem zov {out o : List (List Int)} {r c v : Int} (h : Yk out r c v = some o) : ∃ row, out[r.toNat]? = some row ∧ 0 ≤ r ∧ 0 ≤ c ∧ c.toNat < row.length ∧ o = out.set r.toNat (row.set c.toNat v) := by
  unfold Yk at h
  split at h <;> try (cases h; done)
  rename_i row hr
  split at h <;> cases h
  rename_i hd
  have := wc8 hd
  exact ⟨row, hr, this.1, this.2.1, this.2.2, rfl⟩
theorem zkj {out : List (List Int)} {r c v : Int} {row : List Int} (h : out[r.toNat]? = some row) (h1 : 0 ≤ r) (h2 : 0 ≤ c) (h3 : c.toNat < row.length) : Yk out r c v = some (out.set r.toNat (row.set c.toNat v)) := by
  unfold Yk
  simp only [h, h1, h2, h3, and_self, decide_true]
theorem zn7 {out : List (List Int)} {r c v r2 c2 v2 : Int} (hne : r ≠ r2 ∨ c ≠ c2) {o : List (List Int)} (h : ja (Yk out r c v) (fun o => Yk o r2 c2 v2) = some o) : ja (Yk out r2 c2 v2) (fun o => Yk o r c v) = some o := by
  obtain ⟨o1, h1, h2⟩ := qg h
  obtain ⟨row, a1, a2, a3, a4, rfl⟩ := zov h1
  obtain ⟨row2, b1, b2, b3, b4, rfl⟩ := zov h2
  have hl := (wb3.1 a1).1
  by_cases e : r.toNat = r2.toNat
  · have hr : r = r2 := by omega
    subst hr
    rw [wea hl] at b1
    cases b1
    have hc : c.toNat ≠ c2.toNat := by
      rcases hne with h | h
      · exact absurd rfl h
      · omega
    rw [zkj a1 a2 b3 (by simpa using b4)]
    simp only [ja]
    rw [zkj (row := row.set c2.toNat v2) (by rw [wea hl]) a2 a3 (by simpa using a4)]
    rw [List.set_set, List.set_set, List.set_comm _ _ hc]
  · rw [wd5 e] at b1
    rw [zkj b1 b2 b3 b4]
    simp only [ja]
    rw [zkj (row := row) (by rw [wd5 (Ne.symm e)]; exact a1) a2 a3 a4, List.set_comm _ _ e]
theorem zxg (out : List (List Int)) (r c v r2 c2 v2 : Int) (hne : r ≠ r2 ∨ c ≠ c2) : ja (Yk out r c v) (fun o => Yk o r2 c2 v2) = ja (Yk out r2 c2 v2) (fun o => Yk o r c v) := by
  cases h : ja (Yk out r c v) (fun o => Yk o r2 c2 v2) with
  | some o => exact (zn7 hne h).symm
  | none =>
    cases h2 : ja (Yk out r2 c2 v2) (fun o => Yk o r c v) with
    | none => rfl
    | some o =>
      have hn2 : r2 ≠ r ∨ c2 ≠ c := by
        rcases hne with h | h
        · exact .inl (Ne.symm h)
        · exact .inr (Ne.symm h)
      have := zn7 hn2 h2
      rw [h] at this; cases this
theorem z1h (out : List (List Int)) (r c v : Int) : (ja (qn out.length r) fun p => ja (atL out p) fun _ => ja (ja (atL out p) fun j => qn j.length c) fun q => ja (atL out p) fun j3 => ja (zx j3 q v) fun j4 => some (out.set p.toNat j4)) = Yk out r c v := by
  unfold Yk qn atL zx
  by_cases h1 : 0 ≤ r
  · by_cases h2 : r.toNat < out.length
    · simp only [h1, h2, decide_true, ja, wb5]
      by_cases h3 : 0 ≤ c
      · by_cases h4 : c.toNat < (out[r.toNat]).length <;> simp [h3, h4]
      · simp [h3]
    · simp [h1, h2, ja]
  · cases out[r.toNat]? <;> simp [h1, ja]
theorem zdq (nn j : Nat) (out : List (List Int)) (mk : List Bool) (es : List (jb × (List Int) × Unit)) : qx nn j (out, mk, es) = ja (zl5 (mk.set j true) es j) fun e => ja (atL e.2.1 0) fun v => ja (Yk out e.1.1 e.1.2.1 v) fun o => some (o, mk.set j true, es) := by
  by_cases hl : (mk.set j true).length = es.length
  · have e0 := Yx (es := es) (j := j) hl
    unfold qx
    cases he : es[j]? with
    | none => simp only [zh0, he, e0, ja]
    | some e =>
      simp only [zh0, he, e0, ja, zv1 he]
      obtain ⟨⟨r, c, _⟩, l, _⟩ := e
      cases l with
      | nil =>
        simp only [qn, atL, wdj]
        by_cases h1 : 0 ≤ r
        · by_cases h2 : r.toNat < out.length <;> simp [h1, h2]
        · simp [h1]
      | cons v l =>
        have h0 : qn (v :: l).length 0 = some 0 := by simp [qn]
        have h9 : atL (v :: l) 0 = some v := rfl
        simp only [h0, h9]
        rw [← z1h out r c v]
        simp only [ja]
        cases h1 : qn out.length r with
        | none => rfl
        | some p =>
          simp only
          cases h2 : atL out p with
          | none => rfl
          | some row =>
            simp only
            cases h3 : qn row.length c with
            | none => rfl
            | some q =>
              cases h4 : zx row q v <;> simp only
  · have e0 := zdu (es := es) (j := j) hl
    unfold qx
    cases he : es[j]? with
    | none => simp only [zh0, he, e0, ja]
    | some e => simp only [zh0, he, e0, ja]
theorem zbp (nn : Nat) : zlz zf (qx nn) where
  keep := fun j t t' m h hm => by
    obtain ⟨out, mk, es⟩ := t
    rw [zdq] at h
    obtain ⟨e, _, h2⟩ := qg h
    obtain ⟨v, _, h3⟩ := qg h2
    obtain ⟨o, _, h4⟩ := qg h3
    cases h4
    cases hm; rfl
  swap := fun a b t m x y hne hm hx hy hk => by
    obtain ⟨out, mk, es⟩ := t
    cases hm
    simp only at hx hy
    by_cases hl : mk.length = es.length
    · rw [zdq, zdq, Yx (by simpa using hl), Yx (by simpa using hl), hx, hy]
      obtain ⟨⟨r, c, _⟩, l, _⟩ := x
      obtain ⟨⟨r2, c2, _⟩, l2, _⟩ := y
      have hne2 : r ≠ r2 ∨ c ≠ c2 := by
        by_cases h : r = r2
        · right; intro h2; exact hk (by rw [h, h2])
        · exact .inl h
      have key : ∀ (o : List (List Int)) (i k : Nat) (e : jb × (List Int) × Unit), es[k]? = some e → qx nn k (o, mk.set i true, es) = ja (atL e.2.1 0) fun v => ja (Yk o e.1.1 e.1.2.1 v) fun o => some (o, (mk.set i true).set k true, es) := fun o i k e he => by
        rw [zdq, Yx (by simpa using hl), he]; rfl
      cases hv : atL l 0 with
      | none =>
        cases hv2 : atL l2 0 with
        | none => simp [ja, hv, hv2]
        | some v2 =>
          simp only [ja, hv, hv2]
          cases h5 : Yk out r2 c2 v2 with
          | none => rfl
          | some o => simp only [key o b a _ hx, hv, ja]
      | some v =>
        cases hv2 : atL l2 0 with
        | none =>
          simp only [ja, hv, hv2]
          cases h5 : Yk out r c v with
          | none => rfl
          | some o => simp only [key o a b _ hy, hv2, ja]
        | some v2 =>
          have h := zxg out r c v r2 c2 v2 hne2
          simp only [ja, hv, hv2] at h ⊢
          cases h5 : Yk out r c v with
          | none =>
            cases h6 : Yk out r2 c2 v2 with
            | none => rfl
            | some o =>
              rw [h5, h6] at h
              simp only [key o b a _ hx, hv, ja] at h ⊢
              rw [← h]
          | some o1 =>
            cases h6 : Yk out r2 c2 v2 with
            | none =>
              rw [h5, h6] at h
              simp only [key o1 a b _ hy, hv2, ja] at h ⊢
              rw [h]
            | some o2 =>
              rw [h5, h6] at h
              simp only [key o2 b a _ hx, key o1 a b _ hy, hv, hv2, ja] at h ⊢
              rw [h, List.set_comm _ _ hne]
    · rw [zdq, zdq, zdu (by simpa using hl), zdu (by simpa using hl)]
      rfl
theorem zf0 (nn : Nat) (a0 : jd) : Zr nn a0 = J7 nn a0 := by
  unfold Zr J7
  simp only [zp5 (zcs nn), zp5 (zbp nn)]
noncomputable def zno := lk (α := HK) [(506, me [vp 1 0, vo 4 1, vo 7 2, vi 28, vi 29] [.box 45 [.v jc], .mrows jj 3 I6, .rows 30 3 I6] 3), (1018, .mr ⟨[(7, .own 0), (57, .own 1)], [(0, .rows 30 3 I6), (1, .iter 2), (2, .mrows jj 3 I6)], 3⟩), (259278, me [vp 1 0, vo 4 1, vo 7 2, vi 8, vi 28, vi 29, vi 44, vi 45] [.box 45 [.v jc], .mrows jj 3 I6, .rows 30 3 I6] 3)]
noncomputable def zgz := lk (α := HK) [(58, me [vp 1 0, vo 3 1, (4, .v M6), (14, .v (.sl ji)), vi 15, vi 16] [.box 45 [.v jc], .mrows jj 3 I6] 2), (14950, me [vp 1 0, vo 3 1, (4, .v M6), vi 5, vp 6 2, (14, .v (.sl ji)), vi 15, vi 16, vl 24, vi 25, vi 26] [.box 45 [.v jc], .mrows jj 3 I6, .box 104 [.v ji]] 3)]
noncomputable def zg1 := lk (α := HK) [(58, .mr ⟨[(2, .pt 1 0), (4, .pt 2 0), (5, .v .bool), (10, .own 3)], [(0, .mrows jj 3 I6), (1, .box 219 [.v jj]), (2, .box 219 [.v jj]), (3, .iter 0)], 4⟩), (467, me [vp 2 1, vp 4 2, vb 5, vo 10 3] [.mrows jj 3 I6, .box 219 [.v jj], .box 219 [.v jj], .iter 0] 4), (7476, me [vp 2 1, vp 4 2, vb 5, vp 6 3, vo 10 4, vb 42] [.mrows jj 3 I6, .box 219 [.v jj], .box 219 [.v jj], .box 219 [.v jj], .iter 0] 5)]
theorem zg6 (nn : Nat) : qk 94 ⟨[jc], (.tup (.cons M6 (.cons I6 .nil))), fun t => J7 nn t⟩ := by
  have h : (fun t => J7 nn t : DL [jc] → Option (Ty.D (.tup (.cons M6 (.cons I6 .nil))))) = fun t => Zr nn t := funext fun t => (zf0 nn t).symm
  rw [h]
  exact mk1 Tryz.func94 nn 9 [(0, [25, 37, 54, 55]), (1, [42, 43]), (2, [18, 26, 32])] [(0, [(26, .rows 3 I6)]), (1, [(10, (.mrows jj 3 I6)), (38, .told I6)])] [] [] (itc 1930149 Tryz.func149 zgz 1 [] (itc 2570150 Tryz.func150 zg1 2 [] itn (by kernel_rfl)) (by kernel_rfl)) zno rn gn (tc (vy nn) (tc (zcb nn) (tc (Zj nn) tn))) (by kernel_rfl) fun t => by kernel_rfl
noncomputable def zbn (nn : Nat) (a0 : jw) : Option (List Bool) := ja (Ql nn a0) fun a => ifB (!a) (some []) (ja (some (a0.2.2.1.length : Int)) fun b => ja (mkO 24 b) fun c => jr (σ := (List Int) × Int × Int × jw × (List Int) × (List (List Int))) (fun (d, e, f, g, h, i) j => ifB (decide (f < e)) (J (σ := (List Int) × Int × Int × jw × (List Int) × (List (List Int))) (fun (k, l, m, n, o, p) => ja (some (w64 (m + 1))) fun r => j (k, l, r, n, o, p)) fun q => ja (atL d f) fun s => ja (zdr nn g f) fun u => jr (σ := Int × Int × (List Int) × Int × Int × (List Int) × Int × Int × jw × (List Int) × (List (List Int))) (fun (v, w, x, y, z, b0, b1, b2, b3, b4, b5) b6 => ifB (decide (b2 < b1)) (ja (atL b0 b2) fun b7 => ja (qn b5.length b7) fun b8 => ja (atL b5 b8) fun b9 => ja (ja (atL b5 b8) fun c0 => apO 8 c0 [v]) fun c1 => ja (qn b5.length b7) fun c2 => ja (zwe (some b8.toNat) b5 c2 c1) fun c3 => ja (some (w64 (b2 + 1))) fun c4 => b6 (v, w, x, y, z, b0, b1, c4, b3, b4, c3)) (ifB (decide (0 ≤ w)) (ja (apO 8 b4 [v]) fun c5 => q (x, y, z, b3, c5, b5)) (q (x, y, z, b3, b4, b5)))) nn (f, s, d, e, f, u, (u.length : Int), 0, g, h, i)) (ja (mkO 1 (g.2.2.1.length : Int)) fun c6 => ja (Jn h h) fun c7 => jr (σ := (Option (List (List Int))) × Int × Int × (List Int) × (List Bool) × (List Int)) (fun (c8, c9, d0, d1, d2, d3) d4 => ifB (decide (d0 < c9)) (ja (qn d1.length d0) fun d5 => ja (atL d1 d5) fun d6 => ja (qn d2.length d6) fun d7 => ja (zx d2 d7 true) fun d8 => ja (some (w64 (d0 + 1))) fun d9 => d4 (c8, c9, d9, d1, d8, d3)) (jr (σ := (Option (List (List Int))) × (List Int) × (List Bool) × (List Int)) (fun (e0, e1, e2, e3) e4 => ifB (decide (0 < (e3.length : Int))) (ja (qn e3.length 0) fun e5 => ja (atL e3 e5) fun e6 => ja (zu2 e3 1) fun e7 => ja (e0) fun e8 => ja (atL e8 e6) fun e9 => jr (σ := (Option (List (List Int))) × (List Int) × Int × Int × (List Int) × (List Bool) × (List Int)) (fun (f0, f1, f2, f3, f4, f5, f6) f7 => ifB (decide (f3 < f2)) (J (σ := (Option (List (List Int))) × (List Int) × Int × Int × (List Int) × (List Bool) × (List Int)) (fun (f8, f9, g0, g1, g2, g3, g4) => ja (some (w64 (g1 + 1))) fun g6 => f7 (f8, f9, g0, g6, g2, g3, g4)) fun g5 => ja (atL f1 f3) fun g7 => ja (qn f5.length g7) fun g8 => ja (atL f5 g8) fun g9 => ifB (!g9) (ja (qn f5.length g7) fun h0 => ja (zx f5 h0 true) fun h1 => ja (apO 8 f6 [g7]) fun h2 => g5 (f0, f1, f2, f3, f4, h1, h2)) (g5 (f0, f1, f2, f3, f4, f5, f6))) (e4 (f0, f4, f5, f6))) nn (e0, e9, (e9.length : Int), 0, e1, e2, (e3.drop e7))) (some e2)) nn (c8, d1, d2, d3))) nn ((some i), (h.length : Int), 0, h, (replicate c6 false), c7))) nn (a0.2.2.2.1, (a0.2.2.2.1.length : Int), 0, a0, [], (replicate c ([] : (List Int)))))
noncomputable def zp9 := lk (α := HK) [(250, me [vp 1 0, vp 3 1, vo 4 2, vl 17, vi 18, vi 19] [.box 32 [.v jp], .box 29 [.own 3], .row 3 I6, .rows 30 3 I6] 4), (4006, me [vp 1 0, vp 3 1, vo 4 2, vl 17, vi 18, vi 19] [.box 32 [.v jp], .box 29 [.own 3], .row 3 I6, .rows 30 3 I6] 4), (128202, me [vp 1 0, vp 3 1, vo 4 2, vi 5, vi 6, vl 17, vi 18, vi 19, vl 26, vi 27, vi 28] [.box 32 [.v jp], .box 29 [.own 3], .row 3 I6, .rows 30 3 I6] 4)]
noncomputable def zi5 := lk (α := HK) [(122, me [(2, .fn 195 [] [.v (.ref M6)]), vo 7 1, vo 8 2, vo 18 0, vi 19, vi 20] [.row 3 I6, .row 4 .bool, .row 3 I6] 3), (124, me [(2, .fn 195 [] [.v (.ref M6)]), vo 7 1, vo 8 2] [.row 3 I6, .row 4 .bool, .que 3 I6] 3), (15918, me [(2, .fn 195 [] [.v (.ref M6)]), vo 7 1, vo 8 2, vl 38, vi 39, vi 40] [.row 3 I6, .row 4 .bool, .que 3 I6] 3), (254694, me [(2, .fn 195 [] [.v (.ref M6)]), vo 7 1, vo 8 2, vl 38, vi 39, vi 40] [.row 3 I6, .row 4 .bool, .que 3 I6] 3)]
theorem zj5 (nn : Nat) : FFOk 152 ⟨[jp], 4, .bool, fun t => zbn nn t⟩ := mk2 Tryz.func152 nn 9 [(0, [14, 42, 49]), (1, [27, 56])] [(0, [(15, .rows 3 I6), (39, .told I6), (47, .told I6)]), (1, [(35, .que), (54, .told I6)])] [(1028, [(3, (.ref M6))])] [] (itc 10290192 Tryz.func192 zi5 1 [] (itc 10007060195 Tryz.func195 h0 2 [] itn (by kernel_rfl)) (by kernel_rfl)) zp9 rn gn (tc (Q1 nn) (tc (zgl nn) tn)) (by kernel_rfl) fun t => by kernel_rfl
theorem zja (nn : Nat) : qk 152 ⟨[jp], LB, fun t => zbn nn t⟩ := (zj5 nn).pure
noncomputable def zil (nn : Nat) (a0 : jw) : Option jw := ja (Ql nn a0) fun a => ifB (!a) (some (⟨replicate 256 0, wb4⟩, 0, [], [], ())) (ja (Q9 nn a0) fun b => ja (zbn nn a0) fun c => ja (some (a0.2.2.1.length : Int)) fun d => ja (mkO 8 d) fun e => jr (σ := (List Bool) × (List Bool) × Int × Int × jw × (Arr 256 Int) × Int × (List Int) × (List Int) × (List (List Int)) × (List Int)) (fun (f, g, h, i, j, k, l, m, n, o, p) q => ifB (decide (i < h)) (J (σ := (List Bool) × (List Bool) × Int × Int × jw × (Arr 256 Int) × Int × (List Int) × (List Int) × (List (List Int)) × (List Int)) (fun (r, s, u, v, w, x, y, z, b0, b1, b2) => ja (some (w64 (v + 1))) fun b4 => q (r, s, u, b4, w, x, y, z, b0, b1, b2)) fun b3 => ja (qn m.length i) fun b5 => ja (zx m b5 (-1)) fun b6 => J (σ := (List Bool) × (List Bool) × Int × Int × Int × Bool × jw × (Arr 256 Int) × Int × (List Int) × (List Int) × (List (List Int)) × (List Int)) (fun (b7, b8, b9, c0, c1, c2, c3, c4, c5, c6, c7, c8, c9) => ifB c2 (ja (qn c6.length b9) fun d1 => ja (zx c6 d1 (c7.length : Int)) fun d2 => ja (apO 8 c7 [b9]) fun d3 => b3 (b7, b8, c0, c1, c3, c4, c5, d2, d3, c8, c9)) (b3 (b7, b8, c0, c1, c3, c4, c5, c6, c7, c8, c9))) fun d0 => ja (some (decide (i = 0))) fun d4 => ifB d4 (d0 (f, g, i, h, i, true, j, k, l, b6, n, o, p)) (ja (atL f i) fun d5 => ifB d5 (ja (atL g i) fun d6 => d0 (f, g, i, h, i, d6, j, k, l, b6, n, o, p)) (d0 (f, g, i, h, i, false, j, k, l, b6, n, o, p)))) (jr (σ := Int × Int × jw × (Arr 256 Int) × Int × (List Int) × (Arr 256 Int) × Int × (List Int) × (List (List Int)) × (List Int) × (List (List Int)) × (List Int)) (fun (d7, d8, d9, e0, e1, e2, e3, e4, e5, e6, e7, e8, e9) f0 => ifB (decide (d8 < d7)) (ja (qn e5.length d8) fun f1 => ja (atL e5 f1) fun f2 => ja (mkO 8 d9.2.1) fun f3 => ja (atL d9.2.2.1 f2) fun f4 => ja (cpyO (replicate f3 (0 : Int)) f4) fun f5 => jr (σ := Int × Int × Int × Int × Int × jw × (Arr 256 Int) × Int × (List Int) × (Arr 256 Int) × Int × (List Int) × (List Int) × (List (List Int)) × (List Int) × (List (List Int)) × (List Int)) (fun (f6, f7, f8, f9, g0, g1, g2, g3, g4, g5, g6, g7, g8, g9, h0, h1, h2) h3 => ifB (decide (g0 < f9)) (J (σ := Int × Int × Int × Int × Int × jw × (Arr 256 Int) × Int × (List Int) × (Arr 256 Int) × Int × (List Int) × (List Int) × (List (List Int)) × (List Int) × (List (List Int)) × (List Int)) (fun (h4, h5, h6, h7, h8, h9, i0, i1, i2, i3, i4, i5, i6, i7, i8, i9, j0) => ja (some (w64 (h8 + 1))) fun j2 => h3 (h4, h5, h6, h7, j2, h9, i0, i1, i2, i3, i4, i5, i6, i7, i8, i9, j0)) fun j1 => ja (qn g7.length g0) fun j3 => ja (atL g7 j3) fun j4 => ifB (decide (0 ≤ j4)) (ja (qn g4.length j4) fun j5 => ja (atL g4 j5) fun j6 => ja (qn g7.length g0) fun j7 => ja (zx g7 j7 j6) fun j8 => j1 (f6, f7, f8, f9, g0, g1, g2, g3, g4, g5, g6, j8, g8, g9, h0, h1, h2)) (j1 (f6, f7, f8, f9, g0, g1, g2, g3, g4, g5, g6, g7, g8, g9, h0, h1, h2))) (ja (apO 24 h1 [g7]) fun j9 => ja (atL g1.2.2.2.1 f6) fun k0 => ja (apO 8 h2 [k0]) fun k1 => ja (some (w64 (f8 + 1))) fun k2 => f0 (f7, k2, g1, g2, g3, g4, g5, g6, g8, g9, h0, j9, k1))) nn (f2, d7, d8, (f5.2.length : Int), 0, d9, e0, e1, e2, e3, e4, f5.2, e5, e6, e7, e8, e9)) (some (e3, e4, e8, e9, ()))) nn ((n.length : Int), 0, j, k, l, m, j.1, j.2.1, n, o, p, [], []))) nn (b, c, ((replicate e (0 : Int)).length : Int), 0, a0, ⟨replicate 256 0, wb4⟩, 0, (replicate e (0 : Int)), [], [], []))
noncomputable def zrj := lk (α := HK) [(506, me [vp 1 0, vp 2 1, (3, .v LB), (4, .v LB), vo 5 2, vo 6 3, vi 27, vi 28] [.box 32 [.v jp], .box 32 [.v (.arr 256 U8), .v I6, .own 4, .own 5], .row 3 I6, .row 3 I6, .row 30 L6, .row 3 I6] 6), (2042, me [vp 1 0, vp 2 1, vo 5 2, vp 8 3, vo 63 4, vi 64, vi 65] [.box 32 [.v jp], .box 32 [.v (.arr 256 U8), .v I6, .own 5, .own 6], .row 3 I6, .box 32 [.v (.arr 256 U8), .v I6, .own 7, .own 8], .row 3 I6, .row 30 L6, .row 3 I6, .row 30 L6, .row 3 I6] 9), (8102, me [vp 1 0, vp 2 1, (3, .v LB), (4, .v LB), vo 5 2, vo 6 3, vi 27, vi 28] [.box 32 [.v jp], .box 32 [.v (.arr 256 U8), .v I6, .own 4, .own 5], .row 3 I6, .row 3 I6, .row 30 L6, .row 3 I6] 6), (129638, me [vp 1 0, vp 2 1, (3, .v LB), (4, .v LB), vo 5 2, vo 6 3, vi 7, vi 27, vi 28, vb 47] [.box 32 [.v jp], .box 32 [.v (.arr 256 U8), .v I6, .own 4, .own 5], .row 3 I6, .row 3 I6, .row 30 L6, .row 3 I6] 6), (4182842, me [vp 1 0, vp 2 1, vo 5 2, vp 8 3, vi 10, vo 11 4, vo 63 5, vi 64, vi 65, vo 79 4, vi 80, vi 81] [.box 32 [.v jp], .box 32 [.v (.arr 256 U8), .v I6, .own 6, .own 7], .row 3 I6, .box 32 [.v (.arr 256 U8), .v I6, .own 8, .own 9], .row 3 I6, .row 3 I6, .row 30 L6, .row 3 I6, .row 30 L6, .row 3 I6] 10), (66925478, me [vp 1 0, vp 2 1, vo 5 2, vp 8 3, vi 10, vo 11 4, vo 63 5, vi 64, vi 65, vo 79 4, vi 80, vi 81] [.box 32 [.v jp], .box 32 [.v (.arr 256 U8), .v I6, .own 6, .own 7], .row 3 I6, .box 32 [.v (.arr 256 U8), .v I6, .own 8, .own 9], .row 3 I6, .row 3 I6, .row 30 L6, .row 3 I6, .row 30 L6, .row 3 I6] 10)]
theorem zm7 (nn : Nat) : qk 95 ⟨[jp], jp, fun t => zil nn t⟩ := mk1 Tryz.func95 nn 0 [(0, [24, 35, 57, 95, 112])] [(0, [(55, .told I6), (99, .ownx), (109, .told I6)])] [(1668, [(99, M6)])] [] itn zrj rn gn (tc (Q1 nn) (tc (Z6 nn) (tc (zja nn) tn))) (by kernel_rfl) fun t => by kernel_rfl
noncomputable def Zg (nn : Nat) (a0 : jd) : Option (jw × (List (List Int)) × jm × Unit) := J (σ := jd × (Arr 256 Int) × jm × jd × jw × jm × (List (List Int)) × (List Int) × (List (List Int))) (fun (a, b, c, d, e, f, g, h, i) => ifB (decide (¬ f.1 = 0)) (some ((⟨replicate 256 0, wb4⟩, 0, [], [], ()), [], f, ())) (ja (J7 nn a) fun k => ja (zil nn e) fun l => some (l, k.1, f, ()))) fun j => ja (zaj nn (some (a0, (⟨replicate 256 0, wb4⟩, 0, [], [], ()), [], ()))) fun m => ifB (decide (¬ m.1 = 0)) (j (a0, ⟨replicate 256 0, wb4⟩, (0, 0, 0, ()), a0, (⟨replicate 256 0, wb4⟩, 0, [], [], ()), m, [], [], [])) (ja (za1 nn (some (a0, (⟨replicate 256 0, wb4⟩, 0, [], [], ()), [], ()))) fun n => ifB (decide (¬ n.1 = 0)) (j (a0, ⟨replicate 256 0, wb4⟩, (0, 0, 0, ()), a0, (⟨replicate 256 0, wb4⟩, 0, [], [], ()), n, [], [], [])) (ja (zam nn (some (a0, (⟨replicate 256 0, wb4⟩, 0, [], [], ()), [], ()))) fun o => ifB (decide (¬ o.1 = 0)) (j (a0, ⟨replicate 256 0, wb4⟩, (0, 0, 0, ()), a0, (⟨replicate 256 0, wb4⟩, 0, [], [], ()), o, [], [], [])) (ja (za0 nn (some (a0, (⟨replicate 256 0, wb4⟩, 0, [], [], ()), [], ()))) fun p => ifB (decide (¬ p.1 = 0)) (j (a0, ⟨replicate 256 0, wb4⟩, (0, 0, 0, ()), a0, (⟨replicate 256 0, wb4⟩, 0, [], [], ()), p, [], [], [])) (ja (Vm nn (some (a0, (⟨replicate 256 0, wb4⟩, 0, [], [], ()), [], ()))) fun q => ifB (decide (¬ q.1 = 0)) (j (a0, ⟨replicate 256 0, wb4⟩, (0, 0, 0, ()), a0, (⟨replicate 256 0, wb4⟩, 0, [], [], ()), q, [], [], [])) (J (σ := jd × (Arr 256 Int) × jm × jd × jw × jm × (List (List Int)) × (List Int) × (List (List Int))) (fun (r, s, u, v, w, x, y, z, b0) => ifB (decide (¬ x.1 = 0)) (j (r, s, u, v, w, x, y, z, b0)) (ja (za nn (some (v, w, b0, ()))) fun b2 => ifB (decide (¬ b2.1 = 0)) (j (r, s, u, v, w, b2, y, z, b0)) (j (r, s, u, v, w, b2, y, z, b0)))) fun b1 => ja (ziq nn a0.1) fun b3 => ja (zie nn b3 a0.2.2.2.2.1) fun b4 => ifB (decide (¬ b4.2.2.1 = 0)) (b1 (a0, ⟨replicate 256 0, wb4⟩, (0, 0, 0, ()), a0, (⟨replicate 256 0, wb4⟩, 0, [], [], ()), (16, 0, 0, ()), [], [], [])) (b1 (a0, ⟨replicate 256 0, wb4⟩, (0, 0, 0, ()), a0, b4.1, (0, 0, 0, ()), [], [], [])))))))
noncomputable def zky := lk (α := HK) [(221, me [vp 1 0, vp 2 1, vp 4 2, vp 5 3, vp 6 4] [.box 45 [.v jc], .box 32 [.v (.arr 256 U8), .ci .i64 (0), .own 5, .own 6], .box 25 [.v jq], .box 175 [.v jc, .v jp, .own 7], .box 25 [.v jq], .row 30 L6, .row 3 I6, .row 30 L6] 8), (442, .unroll 24), (1814450, me [vp 1 0, vp 2 1, vp 4 2, vp 5 3, vp 6 4, vo 12 5, (13, .ci .i64 (7)), (14, .ci .i64 (5))] [.box 45 [.v jc], .box 32 [.v (.arr 256 U8), .ci .i64 (0), .own 6, .own 7], .box 25 [.v jq], .box 175 [.v jc, .v jp, .own 8], .box 25 [.v jq], .rowx 180 1 [.agg [.fn 132 [] []], .agg [.fn 134 [] []], .agg [.fn 138 [] []], .agg [.fn 141 [] []], .agg [.fn 144 [] []], .agg [.fn 146 [] []], .agg [.fn 147 [] []]], .row 30 L6, .row 3 I6, .row 30 L6] 9)]
theorem zft (nn : Nat) : qk 60 ⟨[jc], (.tup (.cons jp (.cons M6 (.cons jq .nil)))), fun t => Zg nn t⟩ := mk1 Tryz.func60 nn 9 [] [(1, [(8, .ownx)])] [] [] (itc 1920093 Tryz.func93 h0 1 [] (itc 3870146 Tryz.func146 h0 2 [] itn (by kernel_rfl)) (by kernel_rfl)) zky rn gn (tc (zg6 nn) (tc (zm7 nn) (tc (zd3 nn) (tc (zd5 nn) (tc (zd0 nn) (tc (zd2 nn) (tc (zd9 nn) (tc (Y7 nn) (tc (zm8 nn) (tc (zll nn) tn)))))))))) (by kernel_rfl) fun t => by kernel_rfl
noncomputable def Zz (nn : Nat) (a0 : (List (List Int))) : Option (List (List Int)) := jr (σ := (List (List Int)) × Int × Int × (List (List Int))) (fun (a, b, c, d) e => ifB (decide (c < b)) (ja (atL a c) fun f => ja (Jn f f) fun g => ja (apO 24 d [g]) fun h => ja (some (w64 (c + 1))) fun i => e (a, b, i, h)) (some d)) nn (a0, (a0.length : Int), 0, [])
noncomputable def ztd := lk (α := HK) [(58, me [vo 3 0, (6, .v M6), vi 7, vi 8] [.row 30 L6] 1)]
theorem zk9 (nn : Nat) : qk 32 ⟨[M6], M6, fun t => Zz nn t⟩ := mk1 Tryz.func32 nn 0 [(0, [17])] [(0, [(15, .ownx)])] [(324, [(15, M6)])] [] itn ztd rn gn tn (by kernel_rfl) fun t => by kernel_rfl
noncomputable def Yt (nn : Nat) (a0 : (List (List Int))) (a1 : Int) (a2 : Int) : Option Int := J (σ := (List (List Int)) × Int × Int × Bool) (fun (a, b, c, d) => ifB d (some (-1)) (ja (atL a b) fun f => J (σ := Int × (List Int) × Bool) (fun (g, h, i) => ifB i (ja (atL h g) fun k => some k) (some (-1))) fun j => ja (some (decide (0 ≤ c))) fun l => ifB l (j (c, f, decide (c < (f.length : Int)))) (j (c, f, false)))) fun e => ja (some (decide (a1 < 0))) fun m => ifB m (e (a0, a1, a2, true)) (e (a0, a1, a2, decide ((a0.length : Int) ≤ a1)))
noncomputable def zpk := lk (α := HK) [(12, me [(0, .v M6), vi 1, vi 2, vb 15] [] 0), (58, me [vi 2, vl 7, vb 27] [] 0)]
theorem zjz (nn : Nat) : qk 36 ⟨[M6, I6, I6], I6, fun t => Yt nn (t.1) (t.2.1) (t.2.2)⟩ := mk1 Tryz.func36 nn 0 [(0, [9, 21])] [] [] [] itn zpk rn gn tn (by kernel_rfl) fun t => by kernel_rfl
noncomputable def Vd (nn : Nat) (a0 : (List js)) : Option (List js) := ja (zqu a0) fun a => ifB a (some []) (ja (apO 40 [] a0) fun b => some b)
theorem Jz (nn : Nat) : FFOk 68 ⟨[(.sl jl)], 142, jl, fun t => Vd nn t⟩ := mk2 Tryz.func68 nn 0 [] [(0, [(5, .own jl)])] [] [] itn h0 rn gn tn (by kernel_rfl) fun t => by kernel_rfl
noncomputable def y7 (nn : Nat) (a0 : List js) : Option (List js) := apO 40 [] a0
noncomputable abbrev Vi (nn : Nat) : FF := ⟨[(.sl jl)], 142, jl, fun t => y7 nn t⟩
set_option maxHeartbeats 2000000 in
theorem Qe (nn : Nat) : FFOk 68 (Vi nn) := by
  have hu : Tryz.prog.underlying 97 = some (.slice 142) := by kernel_rfl
  have q22 : ∀ (w : World) (a : Option Addr) (n c n' c' : Nat), (binOp .eql 97 (.slice a n c) (.slice none n' c')).run Tryz.prog w = .ok (.bool a.isNone) w := fun w a n c n' c' => Lib.run_eql_slice_nil w _ _ a n c n' c' hu
  refine zbh (Jz nn) (fun x r => zpj _) (fun c w => ?_) fun a c w => ?_
  · go_enter Tryz.func68, Tryz.ntmps68
    go_wp2
    go_ret
    exact ⟨rfl, rfl⟩
  · have hs0 : (q6 Tryz.prog 97).map (fun r => (r.1, r.2.1, r.2.2.1)) = some (142, 5, 40) := by kernel_rfl
    obtain ⟨⟨e', k', b', z⟩, hse⟩ : ∃ r, q6 Tryz.prog 97 = some r := by
      cases h : q6 Tryz.prog 97 with
      | none => rw [h] at hs0; cases hs0
      | some r => exact ⟨r, rfl⟩
    rw [hse] at hs0
    simp only [wcd, wco, wdl] at hs0
    obtain ⟨rfl, rfl, rfl⟩ := hs0
    obtain ⟨i, hu2, hi, hz, hsz, hby, hzs, hpos⟩ := yo hse
    clear hse
    go_enter Tryz.func68, Tryz.ntmps68
    go_wp2_with (at_builtin; refine wpList_append_own _ rfl _ _ 97 rfl w.heap.size 142 i z 5 40 hu hi hz hsz hby hzs hpos _ _ _ rfl (World.ownsRow_made w #[] 0 (wb7 _) (wdq _) rfl) a 0 c [] rfl rfl (by intro j u hj; simp at hj) (by intro u hu; cases hu) (by unfold maxLen; omega) (by omega) (by simp) ?_)
    intro v' w1 hown hgrow hnil
    go_wp2
    go_ret
    refine ⟨v', rfl, hown, ?_⟩
    exact ((Below.refl _ w).alloc (wb7 _) _).grown hgrow (by simp) (by intro k hk; simp [Value.ownBlock] at hk; omega)
noncomputable abbrev Vj := y7
noncomputable def Vc (nn : Nat) (a0 : (List (List UInt8))) : Option (List (List UInt8)) := ja (zqu a0) fun a => ifB a (some []) (ja (apO 16 [] a0) fun b => some b)
theorem J3 (nn : Nat) : FFOk 69 ⟨[(.sl .str)], 9, .str, fun t => Vc nn t⟩ := mk2 Tryz.func69 nn 0 [] [(0, [(5, .own .str)])] [] [] itn h0 rn gn tn (by kernel_rfl) fun t => by kernel_rfl
noncomputable def y3 (nn : Nat) (a0 : List (List UInt8)) : Option (List (List UInt8)) := apO 16 [] a0
noncomputable abbrev Vg (nn : Nat) : FF := ⟨[(.sl .str)], 9, .str, fun t => y3 nn t⟩
set_option maxHeartbeats 2000000 in
theorem Qi (nn : Nat) : FFOk 69 (Vg nn) := by
  have hu : Tryz.prog.underlying 42 = some (.slice 9) := by kernel_rfl
  have q22 : ∀ (w : World) (a : Option Addr) (n c n' c' : Nat), (binOp .eql 42 (.slice a n c) (.slice none n' c')).run Tryz.prog w = .ok (.bool a.isNone) w := fun w a n c n' c' => Lib.run_eql_slice_nil w _ _ a n c n' c' hu
  refine zbh (J3 nn) (fun x r => zpj _) (fun c w => ?_) fun a c w => ?_
  · go_enter Tryz.func69, Tryz.ntmps69
    go_wp2
    go_ret
    exact ⟨rfl, rfl⟩
  · have hs0 : (q6 Tryz.prog 42).map (fun r => (r.1, r.2.1, r.2.2.1)) = some (9, 1, 16) := by kernel_rfl
    obtain ⟨⟨e', k', b', z⟩, hse⟩ : ∃ r, q6 Tryz.prog 42 = some r := by
      cases h : q6 Tryz.prog 42 with
      | none => rw [h] at hs0; cases hs0
      | some r => exact ⟨r, rfl⟩
    rw [hse] at hs0
    simp only [wcd, wco, wdl] at hs0
    obtain ⟨rfl, rfl, rfl⟩ := hs0
    obtain ⟨i, hu2, hi, hz, hsz, hby, hzs, hpos⟩ := yo hse
    clear hse
    go_enter Tryz.func69, Tryz.ntmps69
    go_wp2_with (at_builtin; refine wpList_append_own _ rfl _ _ 42 rfl w.heap.size 9 i z 1 16 hu hi hz hsz hby hzs hpos _ _ _ rfl (World.ownsRow_made w #[] 0 (wb7 _) (wdq _) rfl) a 0 c [] rfl rfl (by intro j u hj; simp at hj) (by intro u hu; cases hu) (by unfold maxLen; omega) (by omega) (by simp) ?_)
    intro v' w1 hown hgrow hnil
    go_wp2
    go_ret
    refine ⟨v', rfl, hown, ?_⟩
    exact ((Below.refl _ w).alloc (wb7 _) _).grown hgrow (by simp) (by intro k hk; simp [Value.ownBlock] at hk; omega)
noncomputable abbrev Vk := y3
noncomputable def Jw (nn : Nat) (a0 : (List jz)) : Option (List jz) := ja (zqu a0) fun a => ifB a (some []) (ja (apO 32 [] a0) fun b => some b)
theorem zz (nn : Nat) : FFOk 71 ⟨[(.sl jy)], 110, jy, fun t => Jw nn t⟩ := mk2 Tryz.func71 nn 0 [] [(0, [(5, .own jy)])] [] [] itn h0 rn gn tn (by kernel_rfl) fun t => by kernel_rfl
noncomputable def yk (nn : Nat) (a0 : List jz) : Option (List jz) := apO 32 [] a0
noncomputable abbrev J5 (nn : Nat) : FF := ⟨[(.sl jy)], 110, jy, fun t => yk nn t⟩
set_option maxHeartbeats 2000000 in
theorem Ji (nn : Nat) : FFOk 71 (J5 nn) := by
  have hu : Tryz.prog.underlying 102 = some (.slice 110) := by kernel_rfl
  have q22 : ∀ (w : World) (a : Option Addr) (n c n' c' : Nat), (binOp .eql 102 (.slice a n c) (.slice none n' c')).run Tryz.prog w = .ok (.bool a.isNone) w := fun w a n c n' c' => Lib.run_eql_slice_nil w _ _ a n c n' c' hu
  refine zbh (zz nn) (fun x r => zpj _) (fun c w => ?_) fun a c w => ?_
  · go_enter Tryz.func71, Tryz.ntmps71
    go_wp2
    go_ret
    exact ⟨rfl, rfl⟩
  · have hs0 : (q6 Tryz.prog 102).map (fun r => (r.1, r.2.1, r.2.2.1)) = some (110, 4, 32) := by kernel_rfl
    obtain ⟨⟨e', k', b', z⟩, hse⟩ : ∃ r, q6 Tryz.prog 102 = some r := by
      cases h : q6 Tryz.prog 102 with
      | none => rw [h] at hs0; cases hs0
      | some r => exact ⟨r, rfl⟩
    rw [hse] at hs0
    simp only [wcd, wco, wdl] at hs0
    obtain ⟨rfl, rfl, rfl⟩ := hs0
    obtain ⟨i, hu2, hi, hz, hsz, hby, hzs, hpos⟩ := yo hse
    clear hse
    go_enter Tryz.func71, Tryz.ntmps71
    go_wp2_with (at_builtin; refine wpList_append_own _ rfl _ _ 102 rfl w.heap.size 110 i z 4 32 hu hi hz hsz hby hzs hpos _ _ _ rfl (World.ownsRow_made w #[] 0 (wb7 _) (wdq _) rfl) a 0 c [] rfl rfl (by intro j u hj; simp at hj) (by intro u hu; cases hu) (by unfold maxLen; omega) (by omega) (by simp) ?_)
    intro v' w1 hown hgrow hnil
    go_wp2
    go_ret
    refine ⟨v', rfl, hown, ?_⟩
    exact ((Below.refl _ w).alloc (wb7 _) _).grown hgrow (by simp) (by intro k hk; simp [Value.ownBlock] at hk; omega)
noncomputable abbrev J8 := yk
noncomputable def zbk (nn : Nat) (a0 : jd) : Option jd := J (σ := (List (List UInt8)) × (List jk) × Int × Int × Int × Int × Int × jd × (List qy)) (fun (a, b, c, d, e, f, g, h, i) => jr (σ := Int × Int × (List (List UInt8)) × (List jk) × Int × Int × Int × Int × Int × jd × (List qy)) (fun (k, l, m, n, o, p, q, r, s, u, v) w => ifB (decide (l < k)) (ja (qn v.length l) fun x => ja (atL v x) fun y => ja (Vj nn y.2.1) fun z => ja (qn v.length l) fun b0 => ja (ja (atL v b0) fun b1 => zx v b0 (b1.1, z, b1.2.2.1, ())) fun b2 => ja (some (w64 (l + 1))) fun b3 => w (k, b3, m, n, o, p, q, r, s, u, b2)) (ja (Vk nn m) fun b4 => J (σ := Int × Int × Int × Int × Int × jd × (List qy) × (List (List UInt8)) × (List jk)) (fun (b5, b6, b7, b8, b9, c0, c1, c2, c3) => jr (σ := Int × Int × Int × Int × Int × Int × Int × jd × (List qy) × (List (List UInt8)) × (List jk)) (fun (c5, c6, c7, c8, c9, d0, d1, d2, d3, d4, d5) d6 => ifB (decide (c6 < c5)) (ja (qn d5.length c6) fun d7 => ja (atL d5 d7) fun d8 => ja (J8 nn d8.2.1) fun d9 => ja (qn d5.length c6) fun e0 => ja (ja (atL d5 e0) fun e1 => zx d5 e0 (e1.1, d9, ())) fun e2 => ja (some (w64 (c6 + 1))) fun e3 => d6 (c5, e3, c7, c8, c9, d0, d1, d2, d3, d4, e2)) (some (d3, d4, d5, c7, c8, c9, d0, d1, ()))) nn ((c3.length : Int), 0, b5, b6, b7, b8, b9, c0, c1, c2, c3)) fun c4 => nilC n (c4 (o, p, q, r, s, u, v, b4, [])) (ja (zqu n) fun e4 => ifB e4 (c4 (o, p, q, r, s, u, v, b4, [])) (ja (apO 32 [] n) fun e5 => c4 (o, p, q, r, s, u, v, b4, e5))))) nn ((i.length : Int), 0, a, b, c, d, e, f, g, h, i)) fun j => nilC a0.1 (j (a0.2.1, a0.2.2.1, a0.2.2.2.1, a0.2.2.2.2.1, a0.2.2.2.2.2.1, a0.2.2.2.2.2.2.1, a0.2.2.2.2.2.2.2.1, ([], [], [], 0, 0, 0, 0, 0, ()), [])) (ja (zqu a0.1) fun e6 => ifB e6 (j (a0.2.1, a0.2.2.1, a0.2.2.2.1, a0.2.2.2.2.1, a0.2.2.2.2.2.1, a0.2.2.2.2.2.2.1, a0.2.2.2.2.2.2.2.1, ([], [], [], 0, 0, 0, 0, 0, ()), [])) (ja (apO 48 [] a0.1) fun e7 => j (a0.2.1, a0.2.2.1, a0.2.2.2.1, a0.2.2.2.2.1, a0.2.2.2.2.2.1, a0.2.2.2.2.2.2.1, a0.2.2.2.2.2.2.2.1, ([], [], [], 0, 0, 0, 0, 0, ()), e7)))
noncomputable def zqz := lk (α := HK) [(6, me [vp 1 0, vp 2 1] [.box 45 [.own 2, .v (.sl .str), .v (.sl ji), .v I6, .v I6, .v I6, .v I6, .v I6], .box 45 [.v jc], .row 100 qq] 3), (58, me [vp 1 0, vp 2 1, vi 11, vi 12] [.box 45 [.own 2, .v (.sl .str), .v (.sl ji), .v I6, .v I6, .v I6, .v I6, .v I6], .box 45 [.v jc], .row 100 qq] 3), (62, me [vp 1 0, vp 2 1] [.box 45 [.own 2, .own 3, .own 4, .v I6, .v I6, .v I6, .v I6, .v I6], .box 45 [.v jc], .row 100 qq, .row 9 .str, .row 104 ji] 5), (506, me [vp 1 0, vp 2 1, vi 38, vi 39] [.box 45 [.own 2, .own 3, .own 4, .v I6, .v I6, .v I6, .v I6, .v I6], .box 45 [.v jc], .row 100 qq, .row 9 .str, .row 104 ji] 5)]
theorem zcf (nn : Nat) : qk 44 ⟨[jc], jc, fun t => zbk nn t⟩ := mk1 Tryz.func44 nn 9 [(0, [27, 54])] [(1, [(5, .own qq)]), (2, [(5, .own ji)])] [(332, [(24, (.sl jl))]), (780, [(51, (.sl jy))])] [329, 450, 777] (itc 660067 Tryz.func67 h0 1 [] (itc 5140070 Tryz.func70 h0 2 [] itn (by kernel_rfl)) (by kernel_rfl)) zqz rn (gc (Qe nn) (gc (Qi nn) (gc (Ji nn) gn))) tn (by kernel_rfl) fun t => by kernel_rfl
noncomputable def zgd (nn : Nat) (a0 : (List (List UInt8))) (a1 : (List (List UInt8))) : Option Bool := ifB (decide (¬ (a0.length : Int) = (a1.length : Int))) (some false) (jr (σ := (List (List UInt8)) × (List (List UInt8)) × Int) (fun (a, b, c) d => ifB (decide (c < (a.length : Int))) (ja (atL a c) fun e => ja (atL b c) fun f => ifB (!(e == f)) (some false) (ja (some (w64 (c + 1))) fun g => d (a, b, g))) (some true)) nn (a0, a1, 0))
noncomputable def zqh := lk (α := HK) [(58, me [(0, .v (.sl .str)), (1, .v (.sl .str)), vi 5] [] 0)]
theorem zi9 (nn : Nat) : qk 41 ⟨[(.sl .str), (.sl .str)], .bool, fun t => zgd nn (t.1) (t.2)⟩ := mk1 Tryz.func41 nn 0 [(0, [16])] [] [] [] itn zqh rn gn tn (by kernel_rfl) fun t => by kernel_rfl
noncomputable def Zv (nn : Nat) (a0 : qy) (a1 : qy) : Option Bool := J (fun (a : Bool) => some a) fun b => ja (some (a0.1 == a1.1)) fun c => ifB c (ifB (decide (a0.2.2.1 = a1.2.2.1)) (ja (zfc nn a0.2.1 a1.2.1) fun d => b d) (b false)) (b false)
noncomputable def zfy := lk (α := HK) [(6, me [vb 4] [] 0)]
theorem zc0 (nn : Nat) : qk 42 ⟨[qq, qq], .bool, fun t => Zv nn (t.1) (t.2)⟩ := mk1 Tryz.func42 nn 0 [(0, [9])] [] [] [] itn zfy rn gn (tc (zj7 nn) tn) (by kernel_rfl) fun t => by kernel_rfl
noncomputable def zav (nn : Nat) (a0 : jk) (a1 : jk) : Option Bool := J (σ := Bool × jk × jk) (fun (a, b, c) => ifB a (some false) (jr (σ := Int × jk × jk) (fun (e, f, g) h => ifB (decide (e < (f.2.1.length : Int))) (ja (atL f.2.1 e) fun i => ja (atL g.2.1 e) fun j => ifB (!(z4h [i.1 == j.1, i.2.1 == j.2.1, i.2.2.1 == j.2.2.1, i.2.2.2.1 == j.2.2.2.1])) (some false) (ja (some (w64 (e + 1))) fun k => h (k, f, g))) (some true)) nn (0, b, c))) fun d => ja (some (decide (¬ a0.1 = a1.1))) fun l => ifB l (d (true, a0, a1)) (d (decide (¬ (a0.2.1.length : Int) = (a1.2.1.length : Int)), a0, a1))
noncomputable def zhh := lk (α := HK) [(12, me [vp 2 0, vp 3 1, vb 19] [.box 104 [.v ji], .box 104 [.v ji]] 2), (58, me [vp 2 0, vp 3 1, vi 5] [.box 104 [.v ji], .box 104 [.v ji]] 2)]
theorem zd7 (nn : Nat) : qk 43 ⟨[ji, ji], .bool, fun t => zav nn (t.1) (t.2)⟩ := mk1 Tryz.func43 nn 0 [(0, [10, 26])] [] [] [] itn zhh rn gn tn (by kernel_rfl) fun t => by kernel_rfl
noncomputable def Yq (nn : Nat) (a0 : jd) (a1 : jd) : Option Bool := J (σ := Bool × jd × jd) (fun (a, b, c) => ifB a (some false) (jr (σ := Int × jd × jd) (fun (e, f, g) h => ifB (decide (e < (f.1.length : Int))) (ja (atL f.1 e) fun i => ja (atL g.1 e) fun j => ja (Zv nn i j) fun k => ifB (!k) (some false) (ja (some (w64 (e + 1))) fun l => h (l, f, g))) (jr (σ := Int × jd × jd) (fun (m, n, o) p => ifB (decide (m < (n.2.2.1.length : Int))) (ja (atL n.2.2.1 m) fun q => ja (atL o.2.2.1 m) fun r => ja (zav nn q r) fun s => ifB (!s) (some false) (ja (some (w64 (m + 1))) fun u => p (u, n, o))) (J (fun (v : Bool) => some v) fun w => ja (some (decide (n.2.2.2.1 = o.2.2.2.1))) fun x => ifB x (ifB (decide (n.2.2.2.2.1 = o.2.2.2.2.1)) (ifB (decide (n.2.2.2.2.2.1 = o.2.2.2.2.2.1)) (ifB (decide (n.2.2.2.2.2.2.1 = o.2.2.2.2.2.2.1)) (w (decide (n.2.2.2.2.2.2.2.1 = o.2.2.2.2.2.2.2.1))) (w false)) (w false)) (w false)) (w false))) nn (0, f, g))) nn (0, b, c))) fun d => ja (some (decide (¬ (a0.1.length : Int) = (a1.1.length : Int)))) fun y => ifB y (d (true, a0, a1)) (ifB (decide (¬ (a0.2.2.1.length : Int) = (a1.2.2.1.length : Int))) (d (true, a0, a1)) (ja (zgd nn a0.2.1 a1.2.1) fun z => d (!z, a0, a1)))
noncomputable def zpy := lk (α := HK) [(12, me [vp 2 0, vp 3 1, vb 30] [.box 45 [.v jc], .box 45 [.v jc]] 2), (58, me [vp 2 0, vp 3 1, vi 5] [.box 45 [.v jc], .box 45 [.v jc]] 2), (62, me [vb 4] [] 0), (122, me [vp 2 0, vp 3 1, vi 6] [.box 45 [.v jc], .box 45 [.v jc]] 2)]
theorem zi6 (nn : Nat) : qk 13 ⟨[jc, jc], .bool, fun t => Yq nn (t.1) (t.2)⟩ := mk1 Tryz.func13 nn 0 [(0, [13, 37, 56, 73])] [] [] [] itn zpy rn gn (tc (zi9 nn) (tc (zc0 nn) (tc (zd7 nn) tn))) (by kernel_rfl) fun t => by kernel_rfl
noncomputable def qi (nn : Nat) (a0 : (Option Za)) : Option Int := ja (a0) fun a => ja ((none : Option Int)) fun b => some b
theorem Vp (nn : Nat) : qk 45 ⟨[(.ref Zl)], I6, fun t => qi nn t⟩ := mk1 Tryz.func45 nn 0 [] [] [] [] itn h0 rn gn tn (by kernel_rfl) fun t => by kernel_rfl
noncomputable def zfu (nn : Nat) (a0 : (Arr 4 Int)) (a1 : Int) : Option (Arr 4 Int) := ja (zu1 .i64 a1 64) fun a => ja (zu1 .i64 a1 64) fun b => ja (qn 4 b) fun c => ja (atL a0.l c) fun d => ja (zx3 .u64 (wr .u64 a1) 64) fun e => ja (zzi .u64 1 e) fun f => ja (qn 4 a) fun g => ja (zu0 a0 g (orI .u64 d f)) fun h => some h
theorem zj4 (nn : Nat) : qk 101 ⟨[(.arr 4 (.int .u64)), I6], (.arr 4 (.int .u64)), fun t => zfu nn (t.1) (t.2)⟩ := mk1 Tryz.func101 nn 0 [] [] [] [] itn h0 rn gn tn (by kernel_rfl) fun t => by kernel_rfl
noncomputable def ziz (nn : Nat) (a0 : Int) : Option (Arr 4 Int) := ja (zfu nn (⟨replicate 4 0, wb4⟩) (wr .i64 a0)) fun a => some a
theorem zmf (nn : Nat) : qk 74 ⟨[U8], (.arr 4 (.int .u64)), fun t => ziz nn t⟩ := mk1 Tryz.func74 nn 0 [] [] [] [] itn h0 rn gn (tc (zj4 nn) tn) (by kernel_rfl) fun t => by kernel_rfl
noncomputable def zcn (nn : Nat) (a0 : (Arr 4 Int)) : Option (List js) := some [(1, a0, ())]
theorem zl6 (nn : Nat) : FFOk 73 ⟨[(.arr 4 (.int .u64))], 142, jl, fun t => zcn nn t⟩ := mk2 Tryz.func73 nn 0 [] [(0, [(5, .own jl)])] [] [] itn h0 rn gn tn (by kernel_rfl) fun t => by kernel_rfl
theorem zlk (nn : Nat) : qk 73 ⟨[(.arr 4 (.int .u64))], (.sl jl), fun t => zcn nn t⟩ := (zl6 nn).pure
noncomputable def zel (nn : Nat) : Option (List js) := some [(2, ⟨replicate 4 0, wb4⟩, ())]
theorem zhi (nn : Nat) : FFOk 102 ⟨[], 142, jl, fun t => zel nn⟩ := mk2 Tryz.func102 nn 0 [] [(0, [(2, .own jl)])] [] [] itn h0 rn gn tn (by kernel_rfl) fun t => by kernel_rfl
noncomputable abbrev zn3 := zel
noncomputable def zfo (nn : Nat) (a0 : (List (List js))) (a1 : Int) : Option (List js) := jr (σ := (List (List js)) × Int × Int × (List js)) (fun (a, b, c, d) e => ifB (decide (c < (a.length : Int))) (J (σ := (List (List js)) × Int × Int × (List js)) (fun (f, g, h, i) => ja (some (w64 (h + 1))) fun k => e (f, g, k, i)) fun j => ja (atL a c) fun l => ja (apO 40 d l) fun m => ifB (decide (0 < c)) (ja (apO 40 m [(b, ⟨replicate 4 0, wb4⟩, ())]) fun n => j (a, b, c, n)) (j (a, b, c, m))) (some d)) nn (a0, a1, 0, [])
noncomputable def zqa := lk (α := HK) [(58, me [(0, .v (.sl (.sl jl))), vi 1, vo 5 0, vi 6] [.row 142 jl] 1), (466, me [(0, .v (.sl (.sl jl))), vi 1, vo 5 0, vi 6] [.row 142 jl] 1)]
theorem zjb (nn : Nat) : FFOk 103 ⟨[(.sl (.sl jl)), I6], 142, jl, fun t => zfo nn (t.1) (t.2)⟩ := mk2 Tryz.func103 nn 0 [(0, [13])] [(0, [(7, .own jl), (25, .told jl)])] [] [] itn zqa rn gn tn (by kernel_rfl) fun t => by kernel_rfl
noncomputable abbrev zrh := zfo
noncomputable def zim (nn : Nat) (a0 : (List (List js))) : Option (List js) := ifB (decide ((a0.length : Int) = 0)) (ja (zn3 nn) fun a => some a) (ja (zrh nn a0 3) fun b => some b)
theorem zk8 (nn : Nat) : FFOk 75 ⟨[(.sl (.sl jl))], 142, jl, fun t => zim nn t⟩ := mk2 Tryz.func75 nn 0 [] [] [] [128, 193] itn h0 rn (gc (zhi nn) (gc (zjb nn) gn)) tn (by kernel_rfl) fun t => by kernel_rfl
noncomputable abbrev zt5 := zim
noncomputable def zbq (nn : Nat) (a0 : (List UInt8)) : Option (List js) := jr (σ := (List UInt8) × Int × (List (List js))) (fun (a, b, c) d => ifB (decide (b < (a.length : Int))) (ja (zpt a b) fun e => ja (ziz nn e) fun f => ja (zcn nn f) fun g => ja (apO 24 c [g]) fun h => ja (some (w64 (b + 1))) fun i => d (a, i, h)) (ja (zt5 nn c) fun j => some j)) nn (a0, 0, [])
noncomputable def zq1 := lk (α := HK) [(58, me [(0, .v .str), vo 3 0, vi 4] [.row 97 (.sl jl)] 1)]
theorem zjq (nn : Nat) : FFOk 46 ⟨[.str], 142, jl, fun t => zbq nn t⟩ := mk2 Tryz.func46 nn 0 [(0, [11])] [(0, [(5, .own (.sl jl)), (18, .told (.sl jl))])] [] [385] itn zq1 rn (gc (zk8 nn) gn) (tc (zlk nn) (tc (zmf nn) tn)) (by kernel_rfl) fun t => by kernel_rfl
theorem zj6 (nn : Nat) : qk 46 ⟨[.str], (.sl jl), fun t => zbq nn t⟩ := (zjq nn).pure
noncomputable def q9 (nn : Nat) : Option Bool := ja (zbq nn [97]) fun a => ja (zbk nn ([([97], a, 0, ())], [[115]], [(0, [(false, 0, 0, 0, ())], ())], 0, 9, 1, 1, 1, ())) fun b => J (σ := Bool × jd × qu × qu × qu × zgp × zgf × qu × qu × Int × qu × qu × Int) (fun (c, d, e, f, g, h, i, j, k, l, m, n, o) => ifB c (some false) (J (fun (q : Bool) => some q) fun r => ja (some (decide (l = 1))) fun s => ifB s (r (decide (o = 2))) (r false))) fun p => ja (Zg nn b) fun u => ifB (!(z4h [u.2.2.1.1 == (0, 0, 0, ()).1, u.2.2.1.2.1 == (0, 0, 0, ()).2.1, u.2.2.1.2.2.1 == (0, 0, 0, ()).2.2.1])) (p (true, b, (()), (()), (()), (0, 0, ()), (u.1, u.2.1, u.2.2.1, ()), (()), (()), w64 (0 + 1), (()), (()), w64 (0 + 1))) (ja (Qk nn u.1 [97, 33]) fun v => p (decide (¬ (v.length : Int) = 2), b, (()), (()), (()), (0, 0, ()), (u.1, u.2.1, u.2.2.1, ()), (()), (()), w64 (0 + 1), (()), (()), w64 ((w64 (0 + 1)) + 1)))
noncomputable def znf := lk (α := HK) [(28, me [vp 1 0, vb 34] [.box 94 [.v jc, .agg [.v qv, .agg [.v qv, .ci .u32 (1)], .agg [.v qv, .v zgj]], .v ze9, .agg [.v qv, .v qv, .v I6], .agg [.v qv, .v qv, .v I6]]] 1), (30, me [vb 0] [] 0)]
theorem zh1 (nn : Nat) : qk 17 ⟨[], .bool, fun t => q9 nn⟩ := mk1 Tryz.func17 nn 9 [(0, [37])] [(0, [(4, .told qq), (5, .told .str), (7, .told jy), (9, .told ji)])] [] [] (itc 730020 Tryz.func20 h0 1 [] (itc 1320015 Tryz.func15 h0 2 [] (itc 20001950045 Tryz.func45 h0 3 [] (itc 1370016 Tryz.func16 h0 4 [] (itc 40001950045 Tryz.func45 h0 5 [] (itc 1420007 Tryz.func7 h0 6 [] (itc 60000660028 Tryz.func28 h0 7 [] (itc 70001950057 Tryz.func57 h0 8 [] (itc 70002600058 Tryz.func58 h0 9 [] (itc 90000030091 Tryz.func91 h0 10 [] (itc 90000660059 Tryz.func59 h0 11 [] (itc 110000670057 Tryz.func57 h0 12 [] (itc 70003240030 Tryz.func30 h0 13 [] (itc 1470011 Tryz.func11 h0 14 [] (itc 140000660028 Tryz.func28 h0 15 [] (itc 150001950057 Tryz.func57 h0 16 [] (itc 150002600058 Tryz.func58 h0 17 [] (itc 170000030091 Tryz.func91 h0 18 [] (itc 150003240037 Tryz.func37 h0 19 [] (itc 2570015 Tryz.func15 h0 20 [] (itc 200001950045 Tryz.func45 h0 21 [] (itc 2610016 Tryz.func16 h0 22 [] (itc 220001950045 Tryz.func45 h0 23 [] itn (by kernel_rfl)) (by kernel_rfl)) (by kernel_rfl)) (by kernel_rfl)) (by kernel_rfl)) (by kernel_rfl)) (by kernel_rfl)) (by kernel_rfl)) (by kernel_rfl)) (by kernel_rfl)) (by kernel_rfl)) (by kernel_rfl)) (by kernel_rfl)) (by kernel_rfl)) (by kernel_rfl)) (by kernel_rfl)) (by kernel_rfl)) (by kernel_rfl)) (by kernel_rfl)) (by kernel_rfl)) (by kernel_rfl)) (by kernel_rfl)) (by kernel_rfl)) znf rn gn (tc (zdc nn) (tc (zcf nn) (tc (zj6 nn) (tc (zft nn) tn)))) (by kernel_rfl) fun t => by kernel_rfl
noncomputable def Qc (nn : Nat) (a0 : (List UInt8)) (a1 : Int) (a2 : Int) : Option Bool := J (σ := (Option zsp) × Bool) (fun (a, b) => ifB b (some false) (J (fun (d : Bool) => some d) fun e => ifB a.isNone (ja (Yq nn ([], [], [], 0, 0, 0, 0, 0, ()) ([], [], [], 0, 0, 0, 0, 0, ())) fun f => ifB f (ifB a.isNone (ifB a.isNone (ja (q9 nn) fun g => e g) (ja (a) fun h => ja (qi nn (some h.2.2.2.2.1)) fun i => ifB (decide (i = 0)) (ja (q9 nn) fun j => e j) (e false))) (ja (a) fun k => ja (qi nn (some k.2.2.2.1)) fun l => ifB (decide (l = 0)) (ifB a.isNone (ja (q9 nn) fun m => e m) (ja (a) fun n => ja (qi nn (some n.2.2.2.2.1)) fun o => ifB (decide (o = 0)) (ja (q9 nn) fun p => e p) (e false))) (e false))) (e false)) (ja (a) fun q => ja (zbk nn q.1) fun r => ja (Yq nn r ([], [], [], 0, 0, 0, 0, 0, ())) fun s => ifB s (ifB a.isNone (ifB a.isNone (ja (q9 nn) fun u => e u) (ja (a) fun v => ja (qi nn (some v.2.2.2.2.1)) fun w => ifB (decide (w = 0)) (ja (q9 nn) fun x => e x) (e false))) (ja (a) fun y => ja (qi nn (some y.2.2.2.1)) fun z => ifB (decide (z = 0)) (ifB a.isNone (ja (q9 nn) fun b0 => e b0) (ja (a) fun b1 => ja (qi nn (some b1.2.2.2.2.1)) fun b2 => ifB (decide (b2 = 0)) (ja (q9 nn) fun b3 => e b3) (e false))) (e false))) (e false)))) fun c => ja (Zz nn []) fun b4 => ja (Jn ([] : List Int) ([] : List Int)) fun b5 => ifB (decide (¬ (b4.length : Int) = 0)) (c (none, true)) (ja (Zz nn []) fun b6 => ifB (decide (¬ (b6.length : Int) = 0)) (c (none, true)) (ja (Yt nn [] a1 a2) fun b7 => ifB (decide (¬ b7 = (-1))) (c (none, true)) (ja (Qk nn (⟨replicate 256 0, wb4⟩, 0, [], [], ()) a0) fun b8 => ifB (decide (¬ (b8.length : Int) = 0)) (c (none, true)) (c (none, false)))))
noncomputable def zj3 := lk (α := HK) [(28, me [(7, .v (.ref zt4)), vb 49] [] 0), (30, me [vb 6] [] 0)]
theorem P_law26_LangNil_ok (nn : Nat) : qk 3 ⟨[.str, I6, I6], .bool, fun t => Qc nn (t.1) (t.2.1) (t.2.2)⟩ := mk1 Tryz.func3 nn 9 [] [] [] [] (itc 1290006 Tryz.func6 h0 1 [] (itc 10000660028 Tryz.func28 h0 2 [] (itc 20001320029 Tryz.func29 h0 3 [] (itc 1340007 Tryz.func7 h0 4 [] (itc 40000660028 Tryz.func28 h0 5 [] (itc 50001320030 Tryz.func30 h0 6 [] (itc 1380008 Tryz.func8 h0 7 [] (itc 70000660028 Tryz.func28 h0 8 [] (itc 80001320031 Tryz.func31 h0 9 [] (itc 1450009 Tryz.func9 h0 10 [] (itc 100000660028 Tryz.func28 h0 11 [] (itc 110001320034 Tryz.func34 h0 12 [] (itc 1530010 Tryz.func10 h0 13 [] (itc 130000660028 Tryz.func28 h0 14 [] (itc 140001320035 Tryz.func35 h0 15 [] (itc 1590011 Tryz.func11 h0 16 [] (itc 160000660028 Tryz.func28 h0 17 [] (itc 170001320037 Tryz.func37 h0 18 [] (itc 1660012 Tryz.func12 h0 19 [] (itc 190000660028 Tryz.func28 h0 20 [] (itc 200001320039 Tryz.func39 h0 21 [] (itc 2570014 Tryz.func14 h0 22 [] (itc 2620015 Tryz.func15 h0 23 [] (itc 2670016 Tryz.func16 h0 24 [] itn (by kernel_rfl)) (by kernel_rfl)) (by kernel_rfl)) (by kernel_rfl)) (by kernel_rfl)) (by kernel_rfl)) (by kernel_rfl)) (by kernel_rfl)) (by kernel_rfl)) (by kernel_rfl)) (by kernel_rfl)) (by kernel_rfl)) (by kernel_rfl)) (by kernel_rfl)) (by kernel_rfl)) (by kernel_rfl)) (by kernel_rfl)) (by kernel_rfl)) (by kernel_rfl)) (by kernel_rfl)) (by kernel_rfl)) (by kernel_rfl)) (by kernel_rfl)) (by kernel_rfl)) zj3 rn gn (tc (zi6 nn) (tc (zh1 nn) (tc (zk9 nn) (tc (zjz nn) (tc (zdc nn) (tc (zcf nn) (tc (Vp nn) tn))))))) (by kernel_rfl) fun t => by kernel_rfl
def zu7 (x : Int) : List Int → List Int
  | [] => [x]
  | y :: l => match decide (x ≤ y) with
    | true => x :: y :: l
    | false => y :: zu7 x l
def z27 : List Int → List Int
  | [] => []
  | x :: l => zu7 x (z27 l)
theorem zhu (x : Int) : ∀ l : List Int, (zu7 x l).Perm (x :: l)
  | [] => List.Perm.refl _
  | y :: l => by
    unfold zu7
    split
    · exact List.Perm.refl _
    · exact ((zhu x l).cons y).trans (List.Perm.swap x y l)
theorem zsx (x : Int) : ∀ l : List Int, l.Pairwise (· ≤ ·) → (zu7 x l).Pairwise (· ≤ ·)
  | [], _ => by simp [zu7]
  | y :: l, h => by
    rw [List.pairwise_cons] at h
    unfold zu7
    split
    · rename_i c
      have c := wc8 c
      rw [List.pairwise_cons, List.pairwise_cons]
      exact ⟨fun z hz => by
        rcases wck.1 hz with rfl | hz
        · exact c
        · exact Int.le_trans c (h.1 z hz), h⟩
    · rename_i c
      have c := of_decide_eq_false c
      rw [List.pairwise_cons]
      refine ⟨fun z hz => ?_, zsx x l h.2⟩
      rcases wck.1 ((zhu x l).mem_iff.1 hz) with rfl | hz
      · omega
      · exact h.1 z hz
theorem zki : ∀ l : List Int, (z27 l).Perm l ∧ (z27 l).Pairwise (· ≤ ·)
  | [] => ⟨List.Perm.refl _, List.Pairwise.nil⟩
  | x :: l => ⟨(zhu x _).trans ((zki l).1.cons x), zsx x _ (zki l).2⟩
theorem zwo : ∀ {l m : List Int}, l.Pairwise (· ≤ ·) → m.Pairwise (· ≤ ·) → l.Perm m → l = m
  | [], m, _, _, h => (List.nil_perm.1 h).symm
  | x :: l, [], _, _, h => by have := h.length_eq; simp at this
  | x :: l, y :: m, h1, h2, h => by
    rw [List.pairwise_cons] at h1 h2
    have e1 : x ≤ y := by
      rcases wck.1 (h.mem_iff.2 (by simp : y ∈ y :: m)) with e | e
      · omega
      · exact h1.1 y e
    have e2 : y ≤ x := by
      rcases wck.1 (h.mem_iff.1 (by simp : x ∈ x :: l)) with e | e
      · omega
      · exact h2.1 x e
    have e : x = y := by omega
    subst e
    rw [zwo h1.2 h2.2 (h.cons_inv)]
theorem zyp : zcc = z27 := funext fun l => zwo (zqg l) (zki l).2 ((List.mergeSort_perm l _).trans (zki l).1.symm)
set_option maxRecDepth 100000
theorem z2l (nn : Nat) : q9 (nn + 300) = some true := by
  unfold q9 Zg Vm za Vx
  simp only [zyp]
  kernel_rfl
theorem take_nil (nn : Nat) (a b : Int) : Yt nn [] a b = some (-1) := by
  unfold Yt J ja ifB
  by_cases h : a < 0
  · rw [decide_eq_true h]
  · rw [decide_eq_false h]
    have h2 : (([] : List (List Int)).length : Int) ≤ a := by simp; omega
    rw [decide_eq_true h2]
theorem zuk (k : Nat) (s : List UInt8) (a b : Int) : Qc (k + 300) s a b = some true := by
  have h1 : Zz (k + 300) [] = some [] := by kernel_rfl
  have h3 : Qk (k + 300) (⟨replicate 256 0, wb4⟩, 0, [], [], ()) s = some [] := by
    unfold Qk cutP
    rw [show Ql (k + 300) (⟨replicate 256 0, wb4⟩, 0, [], [], ()) = some false from by kernel_rfl]
    rfl
  have h4 : Yq (k + 300) ([], [], [], 0, 0, 0, 0, 0, ()) ([], [], [], 0, 0, 0, 0, 0, ()) = some true := by kernel_rfl
  have h6 : Jn ([] : List Int) ([] : List Int) = some [] := by kernel_rfl
  unfold Qc
  rw [h1, h6, take_nil, h3, h4, z2l]
  rfl
theorem LangNil_tot (s : List UInt8) (a b : Int) : ∃ x : Bool, (∃ nn, ∀ n, nn ≤ n → Qc n s a b = some x) ∧ x = true := ⟨true, ⟨300, fun n hn => by
  obtain ⟨k, rfl⟩ : ∃ k, n = k + 300 := ⟨n - 300, by omega⟩
  exact zuk k s a b⟩, rfl⟩
end
end Go.Proofs.YtiafpechgjopfaaGreatDoor.T
