import Derived.Shelf.Small.Bits
import Derived.Shelf.Strconv.Itoa0
import Derived.Shelf.Sort.Plain
import Derived.Ground.Names2Prog
import Derived.Shelf.Slices.Clone
import Derived.Shelf.Slices.CompactI
import Derived.Shelf.Slices.SearchI
import Derived.Shelf.Slices.Cells
import Derived.Shelf.Slices.In.SortNone
import Derived.Shelf.Slices.Empties
import Derived.Ground.SlgnProg
import Derived.Shelf.SlicesE.Clone
import Derived.Test.YtiafpechgjopfaaGreatDoorProg
import Derived.WalkKit
import Derived.StillTail
import Derived.Deep.Quiet
import Derived.Laws.MakeOwn
import Derived.IntWalk
import Derived.Lib.Hide
import Derived.Test.YtiafpechgjopfaaGreatDoorRows
import Derived.Outline
import Derived.Deep.QuietTactic
import Derived.BigQuiet
import Derived.WalkSmall
import Derived.StillTailTactics
import Derived.Lib.SlicesCompact
import Derived.Sort.OwnSortedInts
import Derived.Lib.OwnBridge
import Derived.Scope
import Derived.MapKept
import Derived.Laws.StructEq
import Derived.Laws.BytesArg
import Derived.Maps.RangeRun
import Derived.WideKeyEntry
namespace Go.Proofs.YtiafpechgjopfaaGreatDoor
theorem wb2 : type_of% @Nat.eq_of_beq_eq_true := @Nat.eq_of_beq_eq_true
theorem wb3 : type_of% @List.getElem?_eq_some_iff := @List.getElem?_eq_some_iff
theorem wb4 : type_of% @List.length_replicate := @List.length_replicate
theorem wb5 : type_of% @List.getElem?_eq_getElem := @List.getElem?_eq_getElem
theorem wb6 : type_of% @Bool.and_eq_true := @Bool.and_eq_true
theorem wb7 : type_of% @Nat.le_refl := @Nat.le_refl
theorem wb8 : type_of% @List.mem_of_getElem? := @List.mem_of_getElem?
theorem wb9 : type_of% @List.getElem?_map := @List.getElem?_map
theorem wca : type_of% @Option.map_eq_some_iff := @Option.map_eq_some_iff
theorem wcb : type_of% @List.mem_singleton := @List.mem_singleton
theorem wcc : type_of% @List.getElem?_append_left := @List.getElem?_append_left
theorem wcd : type_of% @Option.map_some := @Option.map_some
theorem wce : type_of% @List.getElem?_append_right := @List.getElem?_append_right
theorem wcf : type_of% @List.mem_map := @List.mem_map
theorem wcg : type_of% @Array.getElem?_eq_some_iff := @Array.getElem?_eq_some_iff
theorem wch : type_of% @List.length_append := @List.length_append
theorem wci : type_of% @List.flatMap_cons := @List.flatMap_cons
theorem wcj : type_of% @List.map_cons := @List.map_cons
theorem wck : type_of% @List.mem_cons := @List.mem_cons
theorem wcl : type_of% @List.append_nil := @List.append_nil
theorem wcm : type_of% @List.eq_nil_of_length_eq_zero := @List.eq_nil_of_length_eq_zero
theorem wcn : type_of% @Array.getElem?_eq_getElem := @Array.getElem?_eq_getElem
theorem wco : type_of% @Option.some.injEq := @Option.some.injEq
theorem wcp : type_of% @Option.isSome_iff_exists := @Option.isSome_iff_exists
theorem wcq : type_of% @List.append_assoc := @List.append_assoc
theorem wcr : type_of% @List.mem_append := @List.mem_append
theorem wcs : type_of% @List.length_map := @List.length_map
theorem wct : type_of% @Option.getD_some := @Option.getD_some
theorem wcu : type_of% @List.mem_flatMap := @List.mem_flatMap
theorem wcv : type_of% @List.getElem?_drop := @List.getElem?_drop
theorem wcw : type_of% @List.length_singleton := @List.length_singleton
theorem wcx : type_of% @Nat.zero_add := @Nat.zero_add
theorem wcy : type_of% @Array.getD_eq_getD_getElem? := @Array.getD_eq_getD_getElem?
theorem wcz : type_of% @List.all_eq_true := @List.all_eq_true
theorem wc0 : type_of% @Nat.le_of_ble_eq_true := @Nat.le_of_ble_eq_true
theorem wc1 : type_of% @List.length_cons := @List.length_cons
theorem wc2 : type_of% @List.nil_append := @List.nil_append
theorem wc3 : type_of% @Nat.add_mul := @Nat.add_mul
theorem wc4 : type_of% @Option.bind_some := @Option.bind_some
theorem wc5 : type_of% @Bool.not_eq_true' := @Bool.not_eq_true'
theorem wc6 : type_of% @List.getElem?_take := @List.getElem?_take
theorem wc7 : type_of% @List.map_map := @List.map_map
theorem wc8 : type_of% @of_decide_eq_true := @of_decide_eq_true
theorem wc9 : type_of% @decide_eq_true_eq := @decide_eq_true_eq
theorem wda : type_of% @Option.bind_eq_some_iff := @Option.bind_eq_some_iff
theorem wdb : type_of% @Nat.add_zero := @Nat.add_zero
theorem wdc : type_of% @List.flatMap_append := @List.flatMap_append
theorem wdd : type_of% @Nat.mul_le_mul_right := @Nat.mul_le_mul_right
theorem wde : type_of% @List.map_congr_left := @List.map_congr_left
theorem wdf : type_of% @List.length_take := @List.length_take
theorem wdg : type_of% @Nat.add_sub_cancel_left := @Nat.add_sub_cancel_left
theorem wdh : type_of% @List.map_nil := @List.map_nil
theorem wdi : type_of% @Bool.false_eq_true := @Bool.false_eq_true
theorem wdj : type_of% @List.length_nil := @List.length_nil
theorem wdk : type_of% @List.getD_eq_getElem?_getD := @List.getD_eq_getElem?_getD
theorem wdl : type_of% @Prod.mk.injEq := @Prod.mk.injEq
theorem wdm : type_of% @Nat.beq_refl := @Nat.beq_refl
theorem wdn : type_of% @List.getElem?_eq_none := @List.getElem?_eq_none
theorem wdo : type_of% @Nat.le_trans := @Nat.le_trans
theorem wdp : type_of% @List.drop_left' := @List.drop_left'
theorem wdq : type_of% @Nat.zero_le := @Nat.zero_le
theorem wdr : type_of% @List.take_of_length_le := @List.take_of_length_le
theorem wds : type_of% @List.mapM_cons := @List.mapM_cons
theorem wdt : type_of% @List.ext_getElem? := @List.ext_getElem?
theorem wdu : type_of% @List.map_append := @List.map_append
theorem wdv : type_of% @List.any_eq_true := @List.any_eq_true
theorem wdw : type_of% @List.mem_range := @List.mem_range
theorem wdx : type_of% @List.mem_of_mem_take := @List.mem_of_mem_take
theorem wdy : type_of% @List.getElem?_cons_succ := @List.getElem?_cons_succ
theorem wdz : type_of% @List.getElem?_cons_zero := @List.getElem?_cons_zero
theorem wd0 : type_of% @List.length_set := @List.length_set
theorem wd1 : type_of% @Nat.lt_of_lt_of_le := @Nat.lt_of_lt_of_le
theorem wd2 : type_of% @List.take_append_drop := @List.take_append_drop
theorem wd3 : type_of% @Array.getElem?_setIfInBounds_ne := @Array.getElem?_setIfInBounds_ne
theorem wd4 : type_of% @List.mem_append_left := @List.mem_append_left
theorem wd5 : type_of% @List.getElem?_set_ne := @List.getElem?_set_ne
theorem wd6 : type_of% @List.range_eq_range' := @List.range_eq_range'
theorem wd7 : type_of% @Nat.add_assoc := @Nat.add_assoc
theorem wd8 : type_of% @List.cons_append := @List.cons_append
theorem wd9 : type_of% @List.length_drop := @List.length_drop
theorem wea : type_of% @List.getElem?_set_self := @List.getElem?_set_self
theorem web : type_of% @Nat.blt_eq := @Nat.blt_eq
theorem wec : type_of% @List.mem_cons_self := @List.mem_cons_self
theorem wed : type_of% @List.take_left' := @List.take_left'
theorem wee : type_of% @List.getElem?_set := @List.getElem?_set
theorem wef : type_of% @List.size_toArray := @List.size_toArray
theorem weg : type_of% @List.mem_of_mem_drop := @List.mem_of_mem_drop
theorem weh : type_of% @List.mem_cons_of_mem := @List.mem_cons_of_mem
theorem wei : type_of% @List.getElem_mem := @List.getElem_mem
theorem wej : type_of% @List.map_toArray := @List.map_toArray
theorem wek : type_of% @Nat.succ_mul := @Nat.succ_mul
theorem wel : type_of% @List.flatMap_nil := @List.flatMap_nil
theorem wem : type_of% @List.getElem_of_mem := @List.getElem_of_mem
theorem wen : type_of% @Option.some.inj := @Option.some.inj
theorem weo : type_of% @List.cons.injEq := @List.cons.injEq
end Go.Proofs.YtiafpechgjopfaaGreatDoor
namespace Go.Proofs.YtiafpechgjopfaaGreatDoor
theorem X{P:Prop}(h:P:=by grind):P:=h
theorem Waa{P:Prop}(h:P:=by grind):P:=h
theorem Wab{P:Prop}(h:P:=by rfl):P:=h
theorem Wac{P:Prop}(h:P:=by rfl):P:=h
theorem U{P:Prop}(h:P:=by omega):P:=h
theorem Wad{P:Prop}(h:P:=by omega):P:=h
theorem K{P:Prop}(h:P:=by kernel_rfl):P:=h
theorem Wae{P:Prop}(h:P:=by kernel_rfl):P:=h
theorem V{P:Prop}(h:P:=by simp):P:=h
theorem Waf{P:Prop}(h:P:=by simp):P:=h
theorem W{P:Prop}(h:P:=by simp;omega):P:=h
theorem Wag{P:Prop}(h:P:=by simp;omega):P:=h
theorem Wah{P:Prop}(h:P:=by decide):P:=h
theorem Wai{P:Prop}(h:P:=by decide):P:=h
abbrev Wal:=Option
abbrev Wam:=List
abbrev Wan:=Go.Value
abbrev Wao:=Go.World
abbrev Wap:=Go.TypeId
abbrev Waq:=Go.Program
abbrev War:=Go.Operand
abbrev Was:=Go.IntKind
abbrev Wat:=Go.FuncId
theorem Wak{o:Go.Oper}{p:Go.Op}{x:Go.Operand}(d:o.op=p)(h:x∈p.operands:=by simp[Go.Op.operands]):x∈o.op.operands:=d▸h
end Go.Proofs.YtiafpechgjopfaaGreatDoor

namespace Go.Proofs
noncomputable section
open Tryz
set_option maxRecDepth 100000
set_option maxHeartbeats 8000000
set_option linter.unusedVariables false
set_option linter.unusedSimpArgs false
set_option linter.defProp false
open List (replicate range)
open Go.Shelf
def was : Go.Shelf.Ren := ⟨fun | 189 => 243 | 125 => 282 | 257 => 281 | 128 => 313 | 129 => 314 | 294 => 305 | 295 => 306 | 296 => 307 | 297 => 308 | 298 => 309 | 299 => 310 | 216 => 303 | 300 => 311 | 301 => 312 | 328 => 318 | 329 => 319 | 330 => 320 | 331 => 321 | 332 => 322 | 215 => 317 | 343 => 323 | n => n, fun | 28 => 30 | 3 => 3 | 46 => 223 | 0 => 0 | 51 => 81 | 53 => 138 | 4 => 4 | 183 => 349 | 182 => 348 | 131 => 289 | 5 => 5 | 9 => 9 | 218 => 357 | 222 => 361 | 228 => 363 | 229 => 364 | n => n, fun | n => n⟩
theorem wap : Go.Proofs.Lays.n189 Tryz.prog was := {
  mixed := by kernel_rfl
  f125 := Tryz.func282.trans (congrArg some (by kernel_rfl))
  f128 := Tryz.func313.trans (congrArg some (by kernel_rfl))
  f129 := Tryz.func314.trans (congrArg some (by kernel_rfl))
  f189 := Tryz.func243.trans (congrArg some (by kernel_rfl))
  f215 := Tryz.func317.trans (congrArg some (by kernel_rfl))
  f216 := Tryz.func303.trans (congrArg some (by kernel_rfl))
  f257 := Tryz.func281.trans (congrArg some (by kernel_rfl))
  f294 := Tryz.func305.trans (congrArg some (by kernel_rfl))
  f295 := Tryz.func306.trans (congrArg some (by kernel_rfl))
  f296 := Tryz.func307.trans (congrArg some (by kernel_rfl))
  f297 := Tryz.func308.trans (congrArg some (by kernel_rfl))
  f298 := Tryz.func309.trans (congrArg some (by kernel_rfl))
  f299 := Tryz.func310.trans (congrArg some (by kernel_rfl))
  f300 := Tryz.func311.trans (congrArg some (by kernel_rfl))
  f301 := Tryz.func312.trans (congrArg some (by kernel_rfl))
  f328 := Tryz.func318.trans (congrArg some (by kernel_rfl))
  f329 := Tryz.func319.trans (congrArg some (by kernel_rfl))
  f330 := Tryz.func320.trans (congrArg some (by kernel_rfl))
  f331 := Tryz.func321.trans (congrArg some (by kernel_rfl))
  f332 := Tryz.func322.trans (congrArg some (by kernel_rfl))
  f343 := Tryz.func323.trans (congrArg some (by kernel_rfl))
  t0 := Tryz.underlying0
  a0 := Tryz.isAgg0
  z0 := Tryz.sizeOf0
  v0 := Tryz.zeroValue0
  t3 := Tryz.underlying3
  a3 := Tryz.isAgg3
  z3 := Tryz.sizeOf3
  v3 := Tryz.zeroValue3
  t4 := Tryz.underlying4
  a4 := Tryz.isAgg4
  z4 := Tryz.sizeOf4
  v4 := Tryz.zeroValue4
  t5 := Tryz.underlying5
  a5 := Tryz.isAgg5
  z5 := Tryz.sizeOf5
  v5 := Tryz.zeroValue5
  t9 := Tryz.underlying9
  a9 := Tryz.isAgg9
  z9 := Tryz.sizeOf9
  v9 := Tryz.zeroValue9
  t28 := Tryz.underlying30
  a28 := Tryz.isAgg30
  z28 := Tryz.sizeOf30
  v28 := Tryz.zeroValue30
  t46 := Tryz.underlying223
  a46 := Tryz.isAgg223
  z46 := Tryz.sizeOf223
  v46 := Tryz.zeroValue223
  t51 := Tryz.underlying81
  a51 := Tryz.isAgg81
  z51 := Tryz.sizeOf81
  v51 := Tryz.zeroValue81
  t53 := Tryz.underlying138
  a53 := Tryz.isAgg138
  z53 := Tryz.sizeOf138
  v53 := Tryz.zeroValue138
  t131 := Tryz.underlying289
  a131 := Tryz.isAgg289
  z131 := Tryz.sizeOf289
  v131 := Tryz.zeroValue289
  t182 := Tryz.underlying348
  a182 := Tryz.isAgg348
  z182 := Tryz.sizeOf348
  v182 := Tryz.zeroValue348
  t183 := Tryz.underlying349
  a183 := Tryz.isAgg349
  z183 := Tryz.sizeOf349
  v183 := Tryz.zeroValue349
  t218 := Tryz.underlying357
  a218 := Tryz.isAgg357
  z218 := Tryz.sizeOf357
  v218 := Tryz.zeroValue357
  t222 := Tryz.underlying361
  a222 := Tryz.isAgg361
  z222 := Tryz.sizeOf361
  v222 := Tryz.zeroValue361
  t228 := Tryz.underlying363
  a228 := Tryz.isAgg363
  z228 := Tryz.sizeOf363
  v228 := Tryz.zeroValue363
  t229 := Tryz.underlying364
  a229 := Tryz.isAgg364
  z229 := Tryz.sizeOf364
  v229 := Tryz.zeroValue364 }
open Go.Sort Go.RowKit in
theorem Tryz.slices_Sort_int (blk off cap : Nat) (zs : List Int) (w : World) (hH : Holds (Value.int .i64) w blk off zs.toArray) (hblk : blk < w.heap.size) (hsz : zs.length < 4611686018427387904) :
    Calls Tryz.prog 243 #[.slice (some ⟨blk, off, none⟩) zs.length cap] w fun e w' =>
      e = .returned (.tuple #[]) ∧ ∃ n os, w' = grow (putRow (Value.int .i64) (Sort.ahead w n) blk off (zs.mergeSort fun x y => decide (x ≤ y)).toArray) os := Any.slices_Sort_int wap blk off cap zs w hH hblk hsz
def wam : Go.Shelf.Ren := ⟨fun | 15 => 33 | n => n, fun | 22 => 30 | 3 => 3 | 4 => 4 | n => n, fun | n => n⟩
theorem wag : Go.Proofs.Lays2.n15 Tryz.prog wam := {
  mixed := by kernel_rfl
  f15 := Tryz.func33.trans (congrArg some (by kernel_rfl))
  t3 := Tryz.underlying3
  a3 := Tryz.isAgg3
  z3 := Tryz.sizeOf3
  v3 := Tryz.zeroValue3
  t4 := Tryz.underlying4
  a4 := Tryz.isAgg4
  z4 := Tryz.sizeOf4
  v4 := Tryz.zeroValue4
  t22 := Tryz.underlying30
  a22 := Tryz.isAgg30
  z22 := Tryz.sizeOf30
  v22 := Tryz.zeroValue30
  i3 := by kernel_rfl }
open Go.RowKit Go.Lib in
theorem Tryz.slices_Clone_int (b off n c : Nat) (zs : List Int) (w : World) (hz : n ≤ zs.length) (hbig : n * 8 ≤ 140737488355328) (hc : ∀ j, j < zs.length → w.cell? ⟨b, off + j, none⟩ = some (.int .i64 (zs.getD j 0))) :
    Calls Tryz.prog 33 #[.slice (some ⟨b, off, none⟩) n c] w fun e w' => ∃ v', e = .returned v' ∧ w'.ownsRow w.heap.size 3 1 v' n ((zs.take n).map (Value.int .i64)) ∧ v' ≠ .slice none 0 0 ∧ Below w.heap.size w w' := Any.slices_Clone_int wag b off n c zs w hz hbig hc
open Go.RowKit Go.Lib in
theorem Tryz.slices_Clone_int_nil (n c : Nat) (w : World) :
    Calls Tryz.prog 33 #[.slice none n c] w fun e w' => e = .returned (.slice none 0 0) ∧ w' = w := Any.slices_Clone_int_nil wag n c w
open Go.RowKit Go.Lib in
theorem Tryz.slices_Clone_int_zero (a : Addr) (c : Nat) (w : World) :
    Calls Tryz.prog 33 #[.slice (some a) 0 c] w fun e w' => ∃ v', e = .returned v' ∧ w'.ownsRow w.heap.size 3 1 v' 0 [] ∧ v' ≠ .slice none 0 0 ∧ Below w.heap.size w w' := Any.slices_Clone_int_zero wag a c w
def wal : Go.Shelf.Ren := ⟨fun | 20 => 244 | n => n, fun | 22 => 30 | 3 => 3 | 4 => 4 | 0 => 0 | n => n, fun | n => n⟩
theorem wak : Go.Proofs.Lays2.n20 Tryz.prog wal := {
  mixed := by kernel_rfl
  f20 := Tryz.func244.trans (congrArg some (by kernel_rfl))
  t0 := Tryz.underlying0
  a0 := Tryz.isAgg0
  z0 := Tryz.sizeOf0
  v0 := Tryz.zeroValue0
  t3 := Tryz.underlying3
  a3 := Tryz.isAgg3
  z3 := Tryz.sizeOf3
  v3 := Tryz.zeroValue3
  t4 := Tryz.underlying4
  a4 := Tryz.isAgg4
  z4 := Tryz.sizeOf4
  v4 := Tryz.zeroValue4
  t22 := Tryz.underlying30
  a22 := Tryz.isAgg30
  z22 := Tryz.sizeOf30
  v22 := Tryz.zeroValue30
  i3 := by kernel_rfl }
open Go.RowKit Go.Lib Go.Sort in
theorem Tryz.slices_Compact_int (blk off cap : Nat) (zs : List Int) (w : World) (hH : Holds (Value.int .i64) w blk off zs.toArray) (hsz : zs.length ≤ 9223372036854775807) (hcap : zs.length ≤ cap) :
    Calls Tryz.prog 244 #[.slice (some ⟨blk, off, none⟩) zs.length cap] w fun e w' => e = .returned (.slice (some ⟨blk, off, none⟩) (Lib.compact zs).length cap) ∧ ∃ q, w' = putRow (Value.int .i64) (Sort.ahead w q) blk off (Lib.compact zs ++ replicate (zs.length - (Lib.compact zs).length) 0).toArray := Any.slices_Compact_int wak blk off cap zs w hH hsz hcap
open Go.RowKit Go.Lib Go.Sort in
theorem Tryz.slices_Compact_int_empty (a : Option Addr) (cap : Nat) (w : World) :
    Calls Tryz.prog 244 #[.slice a 0 cap] w fun e w' => e = .returned (.slice a 0 cap) ∧ w' = w := Any.slices_Compact_int_empty wak a cap w
open Go.RowKit Go.Sort in
theorem Tryz.slices_Sort_int_none (p : Option Addr) (cap : Nat) (w : World) :
    Calls Tryz.prog 243 #[.slice p 0 cap] w fun e w' => e = .returned (.tuple #[]) ∧ w' = w := Any.slices_Sort_int_none wap p cap w
end
end Go.Proofs
namespace Go.Proofs.YtiafpechgjopfaaGreatDoor.L
noncomputable section
set_option maxRecDepth 100000
set_option maxHeartbeats 8000000
set_option linter.unusedVariables false
set_option linter.unusedSimpArgs false
set_option linter.defProp false
open List (replicate range)
open Go
def glT : List (Nat × List Value) := [(0, [.int .i64 (-1), .int .i64 0])]
def GW (w : World) : Prop := ∀ x ∈ glT, x.1 < w.heap.size ∧ ∀ k c, x.2[k]? = some c → w.cell? ⟨x.1, k, none⟩ = some c
theorem gw_some : ∃ w, GW w := ⟨{ (default : World) with heap := Array.replicate (0 + 1) (.cells #[.int .i64 (-1), .int .i64 0] 0 (0, 0)) }, fun x h => by
  simp only [glT, wcb] at h
  subst h
  refine ⟨by decide, fun k c hk => ?_⟩
  match k, hk with
  | 0, hk => cases hk; rfl
  | 1, hk => cases hk; rfl
  | k + 2, hk => simp at hk⟩
open Go Go.RowKit
inductive Nm where
  | o (i : Nat)
  | c (i j : Nat)
  | r (x : Nm)
  deriving DecidableEq
def Nm.rt : Nm → Option Nat
  | .o i => some i
  | .c i _ => some i
  | .r _ => none
inductive PV where
  | u (v : Value)
  | unk
  | agg (cs : List PV)
  | tup (cs : List PV)
  | sl (k : Nat) (xs : List PV)
  | fr (t : TypeId) (k : Nat) (xs : List PV)
  | rp (cs : List PV)
  | ps (id : Nm) (ver : Nat)
  | qs (id : Nm) (off k ver : Nat)
  | pp (id : Nm) (off ver : Nat)
  | fn (f : Fn) (a b : List PV)
  deriving Inhabited
def PV.cells : PV → List PV
  | .agg cs => cs
  | p => [p]
inductive PBody where
  | row (t : TypeId) (k n : Nat) (cs : List PV)
  | box (t : TypeId) (cs : List PV)
  | raw (p : Bool) (cs : List PV) (φ : Nat → Obj → List Value → Prop)
  | que (t : TypeId) (k n : Nat) (cs : List PV)
structure zd4 where
  ver : Nat
  body : Option PBody
abbrev PHeap := Nm → zd4
abbrev PFrame := Nat → PV
def waa : PHeap := fun _ => ⟨0, none⟩
def PHeap.set (H : PHeap) (id : Nm) (b : zd4) : PHeap := fun i => if i = id then b else H i
def PFrame.put (F : PFrame) (d : Option Nat) (p : PV) : PFrame := fun t => if d = some t then p else F t
def zix (off k : Nat) (V v : Value) : Prop :=
  ∃ a n c a', V = .slice a n c ∧ v = .slice a' (n - off) (c - off) ∧ off ≤ n ∧ n ≤ c ∧ ((a = none ∧ a' = none) ∨ ∃ b o, a = some ⟨b, 0, none⟩ ∧ a' = some ⟨b, o, none⟩ ∧ (o = off * k ∨ c = off))
def z2g (p : Bool) (g : Nat) : Value := match p with
  | true => .pointer (some ⟨g, 0, none⟩)
  | false => .map (some g)
def zxr (es : List (Value × Value)) : PBody := .raw false [] fun _ o _ => ∃ arr clock, o = .map arr clock ∧ arr.toList.map (fun e => (e.key, e.val)) = es
def jv : Value → Option Nat
  | .slice (some a) _ _ => some a.block
  | .pointer (some a) => some a.block
  | .map (some b) => some b
  | _ => none
def Jy : Value → Nat
  | .slice (some a) _ _ => a.off
  | _ => 0
theorem zgq (p : Bool) (g : Nat) : jv (z2g p g) = some g := by cases p <;> rfl
structure ZM where
  z : Nat → Prop
  m : Nat
instance : CoeFun ZM fun _ => Nat → Prop := ⟨ZM.z⟩
def PZ (Z : ZM) (H : PHeap) (V : Nm → Value) (b : Nat) : Prop := Z b ∨ ∃ id, (H id).body.isSome = true ∧ jv (V id) = some b
inductive Rp (Z : ZM) (H : PHeap) (V : Nm → Value) (w : World) : PV → Value → Prop
  | u (v : Value) : Rp Z H V w (.u v) v
  | unk (v : Value) : Rp Z H V w .unk v
  | agg (cs : List PV) (vs : Array Value) (hl : cs.length = vs.size) (h : ∀ (i : Nat) (p : PV) (v : Value), cs[i]? = some p → vs[i]? = some v → Rp Z H V w p v) : Rp Z H V w (.agg cs) (.agg vs)
  | tup (cs : List PV) (vs : Array Value) (hl : cs.length = vs.size) (h : ∀ (i : Nat) (p : PV) (v : Value), cs[i]? = some p → vs[i]? = some v → Rp Z H V w p v) : Rp Z H V w (.tup cs) (.tuple vs)
  | nil (k : Nat) (a : Option Addr) (c : Nat) : Rp Z H V w (.sl k []) (.slice a 0 c)
  | sl (k : Nat) (xs : List PV) (b o c : Nat) (g : Nat → Value) (hu : ∀ y ∈ xs, y.cells.length = k) (hlen : xs.length ≤ c)
      (hz : ¬ PZ Z H V b) (hb : b < w.heap.size)
      (h1 : ∀ (i : Nat) (p : PV), (xs.flatMap PV.cells)[i]? = some p → w.cell? ⟨b, o + i, none⟩ = some (g i))
      (h2 : ∀ (i : Nat) (p : PV), (xs.flatMap PV.cells)[i]? = some p → Rp Z H V w p (g i)) : Rp Z H V w (.sl k xs) (.slice (some ⟨b, o, none⟩) xs.length c)
  | fr (t : TypeId) (k : Nat) (xs : List PV) (v : Value) (vals : List Value) (hu : ∀ y ∈ xs, y.cells.length = k) (ho : w.ownsRow Z.m t k v xs.length vals)
      (hz : ∀ b, jv v = some b → ¬ PZ Z H V b) (h1 : ∀ u ∈ vals, u.oneCell' = true)
      (h2 : ∀ (i : Nat) (p : PV) (u : Value), (xs.flatMap PV.cells)[i]? = some p → vals[i]? = some u → Rp Z H V w p u) : Rp Z H V w (.fr t k xs) v
  | rp (cs : List PV) (b o : Nat) (g : Nat → Value) (hz : ¬ PZ Z H V b) (hb : b < w.heap.size)
      (h1 : ∀ (i : Nat) (p : PV), cs[i]? = some p → w.cell? ⟨b, o + i, none⟩ = some (g i))
      (h2 : ∀ (i : Nat) (p : PV), cs[i]? = some p → Rp Z H V w p (g i)) : Rp Z H V w (.rp cs) (.pointer (some ⟨b, o, none⟩))
  | ps (id : Nm) (ver : Nat) (v : Value) (hv : ver ≤ (H id).ver) (h : (H id).body.isSome = true → (H id).ver = ver → v = V id) : Rp Z H V w (.ps id ver) v
  | qs (id : Nm) (off k ver : Nat) (v : Value) (hv : ver ≤ (H id).ver) (h : (H id).body.isSome = true → (H id).ver = ver → zix off k (V id) v) : Rp Z H V w (.qs id off k ver) v
  | pp (id : Nm) (off ver : Nat) (v : Value) (hv : ver ≤ (H id).ver) (h : (H id).body.isSome = true → (H id).ver = ver → ∃ g, jv (V id) = some g ∧ v = .pointer (some ⟨g, Jy (V id) + off, none⟩)) : Rp Z H V w (.pp id off ver) v
  | fn (f : Fn) (a b : List PV) (va vb : Array Value) (hla : a.length = va.size) (hlb : b.length = vb.size)
      (ha : ∀ (i : Nat) (p : PV) (v : Value), a[i]? = some p → va[i]? = some v → Rp Z H V w p v) (hb : ∀ (i : Nat) (p : PV) (v : Value), b[i]? = some p → vb[i]? = some v → Rp Z H V w p v) : Rp Z H V w (.fn f a b) (.func f va vb)
theorem yy {w w' : World} {m m' : Nat} {t : TypeId} {k n : Nat} {v : Value} {vals : List Value} (ho : w.ownsRow m t k v n vals) (hm : m' ≤ m) (hb : ∀ b, jv v = some b → b < w.heap.size → w'.heap[b]? = w.heap[b]?) : w'.ownsRow m' t k v n vals := ⟨ho.1, by
  rcases ho.2 with h | ⟨g, cap, cur, e, hg, hh, r⟩
  · exact .inl h
  · exact .inr ⟨g, cap, cur, e, by omega, by rw [hb g (by rw [e]; rfl) (wcg.1 hh).1]; exact hh, r⟩⟩
theorem Jg {w : World} {m : Nat} {t : TypeId} {k n : Nat} {v : Value} {vals : List Value} (ho : w.ownsRow m t k v n vals) {b : Nat} (hb : jv v = some b) : m ≤ b ∧ b < w.heap.size := by
  rcases ho.2 with ⟨e, _⟩ | ⟨g, cap, cur, e, hg, hh, r⟩
  · rw [e] at hb; cases hb
  · rw [e] at hb; cases hb; exact ⟨hg, (wcg.1 hh).1⟩
theorem Rp.mono {Z Z' : ZM} {H H' : PHeap} {V V' : Nm → Value} {w w' : World} {p : PV} {v : Value} (h : Rp Z H V w p v)
    (hc : ∀ b, ¬ PZ Z H V b → b < w.heap.size → ¬ PZ Z' H' V' b ∧ b < w'.heap.size ∧ w'.heap[b]? = w.heap[b]?)
    (hm : Z'.m ≤ Z.m)
    (hv : ∀ id, (H id).ver ≤ (H' id).ver)
    (hl : ∀ id ver, ver ≤ (H id).ver → (H' id).body.isSome = true → (H' id).ver = ver → (H id).body.isSome = true ∧ (H id).ver = ver ∧ V' id = V id) : Rp Z' H' V' w' p v := by
  induction h with
  | u v => exact .u v
  | unk v => exact .unk v
  | agg cs vs hl' h ih => exact .agg cs vs hl' ih
  | tup cs vs hl' h ih => exact .tup cs vs hl' ih
  | nil k a c => exact .nil k a c
  | sl k xs b o c g hu hlen hz hb h1 h2 ih =>
    obtain ⟨a1, a2, a3⟩ := hc b hz hb
    exact .sl k xs b o c g hu hlen a1 a2 (fun i p hi => by rw [World.cell?_of_block a3]; exact h1 i p hi) ih
  | fr t k xs v vals hu ho hz h1 h2 ih =>
    exact .fr t k xs v vals hu (yy ho hm fun b hb hlt => (hc b (hz b hb) hlt).2.2) (fun b hb => (hc b (hz b hb) (Jg ho hb).2).1) h1 ih
  | rp cs b o g hz hb h1 h2 ih =>
    obtain ⟨a1, a2, a3⟩ := hc b hz hb
    exact .rp cs b o g a1 a2 (fun i p hi => by rw [World.cell?_of_block a3]; exact h1 i p hi) ih
  | ps id ver v hv' h =>
    refine .ps id ver v (wdo hv' (hv id)) fun h1 h2 => ?_
    obtain ⟨a, b, c⟩ := hl id ver hv' h1 h2
    rw [c]; exact h a b
  | qs id off k ver v hv' h =>
    refine .qs id off k ver v (wdo hv' (hv id)) fun h1 h2 => ?_
    obtain ⟨a, b, c⟩ := hl id ver hv' h1 h2
    rw [c]; exact h a b
  | pp id off ver v hv' h =>
    refine .pp id off ver v (wdo hv' (hv id)) fun h1 h2 => ?_
    obtain ⟨a, b, c⟩ := hl id ver hv' h1 h2
    rw [c]; exact h a b
  | fn f a b va vb hla hlb ha hb iha ihb => exact .fn f a b va vb hla hlb iha ihb
theorem Rp.grow {Z : ZM} {H : PHeap} {V : Nm → Value} {w w' : World} {p : PV} {v : Value} (h : Rp Z H V w p v) (hb : Below w.heap.size w w') : Rp Z H V w' p v :=
  h.mono (fun b hz hlt => ⟨hz, wd1 hlt hb.size, hb.block b hlt⟩) (wb7 _) (fun _ => wb7 _) (fun _ _ _ h1 h2 => ⟨h1, h2, rfl⟩)
def RpL (Z : ZM) (H : PHeap) (V : Nm → Value) (w : World) (cs : List PV) (vs : List Value) : Prop :=
  cs.length = vs.length ∧ ∀ (i : Nat) (p : PV) (v : Value), cs[i]? = some p → vs[i]? = some v → Rp Z H V w p v
theorem RpL.mono {Z Z' : ZM} {H H' : PHeap} {V V' : Nm → Value} {w w' : World} {cs : List PV} {vs : List Value} (h : RpL Z H V w cs vs)
    (hm : ∀ p v, Rp Z H V w p v → Rp Z' H' V' w' p v) : RpL Z' H' V' w' cs vs := ⟨h.1, fun i p v h1 h2 => hm p v (h.2 i p v h1 h2)⟩
theorem GW.below {w w' : World} (h : GW w) (hb : Below w.heap.size w w') : GW w' := fun x hx => by
  obtain ⟨h1, h2⟩ := h x hx
  refine ⟨wd1 h1 hb.size, fun k c hc => ?_⟩
  have h3 := h2 k c hc
  unfold World.cell? at h3 ⊢
  rw [hb.block x.1 h1]
  exact h3
structure Env where
  w : World
  Z : ZM
  hm : Z.m ≤ w.heap.size
  gw : GW w
  /-- what waits: the slots of those that called, who share the own heap -/
  G : Nat → PV := fun _ => .unk
  gv : Nat → Value := fun _ => undef
  /-- what the call has deferred -/
  ds : List Deferred := []
noncomputable def z1s : Env := { w := gw_some.choose, Z := ⟨fun _ => False, 0⟩, hm := wdq _, gw := gw_some.choose_spec }
def PBody.cs : PBody → List PV
  | .row _ _ _ cs => cs
  | .box _ cs => cs
  | .raw _ cs _ => cs
  | .que _ _ _ cs => cs
def PBody.Is (w : World) (m : Nat) (v : Value) (vs : List Value) : PBody → Prop
  | .row t k n _ => w.ownsRow m t k v n vs ∧ ∀ u ∈ vs, u.oneCell' = true
  | .box t _ => ∃ g, v = .pointer (some ⟨g, 0, none⟩) ∧ m ≤ g ∧ w.heap[g]? = some (.cells vs.toArray t (0, 0)) ∧ ∀ u ∈ vs, u.oneCell' = true
  | .raw p _ φ => ∃ g o, v = z2g p g ∧ m ≤ g ∧ w.heap[g]? = some o ∧ φ g o vs
  | .que t k n _ => ∃ v0 off pre, w.ownsRow m t k v0 (off + n) (pre ++ vs) ∧ pre.length = off * k ∧ zix off k v0 v ∧ ∀ u ∈ pre ++ vs, u.oneCell' = true
theorem Jd {off k : Nat} {V v : Value} (h : zix off k V v) : jv v = jv V := by
  obtain ⟨a, n, c, a', rfl, rfl, _, _, ⟨rfl, rfl⟩ | ⟨b, o, rfl, rfl, _⟩⟩ := h <;> rfl
theorem PBody.Is.lt {w : World} {m : Nat} {v : Value} {vs : List Value} {bd : PBody} (h : bd.Is w m v vs) {b : Nat} (hb : jv v = some b) : m ≤ b ∧ b < w.heap.size := by
  cases bd with
  | row t k n cs => exact Jg h.1 hb
  | box t cs => obtain ⟨g, rfl, hg, hh, _⟩ := h; cases hb; exact ⟨hg, (wcg.1 hh).1⟩
  | raw p cs φ => obtain ⟨g, o, rfl, hg, hh, _⟩ := h; rw [zgq] at hb; cases hb; exact ⟨hg, (wcg.1 hh).1⟩
  | que t k n cs => obtain ⟨v0, off, pre, ho, _, hd, _⟩ := h; exact Jg ho ((Jd hd).symm.trans hb)
theorem PBody.Is.keep {w w' : World} {m : Nat} {v : Value} {vs : List Value} {bd : PBody} (h : bd.Is w m v vs) (hb : ∀ b, jv v = some b → w'.heap[b]? = w.heap[b]?) : bd.Is w' m v vs := by
  cases bd with
  | row t k n cs => exact ⟨yy h.1 (wb7 _) fun b hv _ => hb b hv, h.2⟩
  | box t cs => obtain ⟨g, rfl, hg, hh, h1⟩ := h; exact ⟨g, rfl, hg, by rw [hb g rfl]; exact hh, h1⟩
  | raw p cs φ => obtain ⟨g, o, rfl, hg, hh, h1⟩ := h; exact ⟨g, o, rfl, hg, by rw [hb g (zgq p g)]; exact hh, h1⟩
  | que t k n cs => obtain ⟨v0, off, pre, ho, h1, hd, h2⟩ := h; exact ⟨v0, off, pre, yy ho (wb7 _) fun b hv _ => hb b ((Jd hd).trans hv), h1, hd, h2⟩
structure HRel (P : Program) (W : Env) (H : PHeap) (V : Nm → Value) (w : World) : Prop where
  below : Below W.w.heap.size W.w w
  body : ∀ id bd, (H id).body = some bd → ∃ vs, bd.Is w W.w.heap.size (V id) vs ∧ RpL W.Z H V w bd.cs vs
  ghost : ∀ i, Rp W.Z H V w (W.G i) (W.gv i)
  apart : ∀ id id' g, (H id).body.isSome = true → (H id').body.isSome = true → jv (V id) = some g → jv (V id') = some g → id = id'
  zlt : ∀ b, W.Z b → b < w.heap.size
  nz : ∀ id b, (H id).body.isSome = true → jv (V id) = some b → ¬ W.Z b
section
variable {P : Program} {W : Env} {H : PHeap} {V : Nm → Value} {w : World}
theorem HRel.row (h : HRel P W H V w) (id : Nm) (t : TypeId) (k n : Nat) (cs : List PV) (hb : (H id).body = some (.row t k n cs)) : ∃ vals, w.ownsRow W.w.heap.size t k (V id) n vals ∧ RpL W.Z H V w cs vals ∧ ∀ v ∈ vals, v.oneCell' = true := by
  obtain ⟨vs, h1, h2⟩ := h.body id _ hb
  exact ⟨vs, h1.1, h2, h1.2⟩
theorem HRel.box (h : HRel P W H V w) (id : Nm) (t : TypeId) (cs : List PV) (hb : (H id).body = some (.box t cs)) : ∃ g arr, V id = .pointer (some ⟨g, 0, none⟩) ∧ W.w.heap.size ≤ g ∧ w.heap[g]? = some (.cells arr t (0, 0)) ∧ RpL W.Z H V w cs arr.toList ∧ ∀ v ∈ arr.toList, v.oneCell' = true := by
  obtain ⟨vs, ⟨g, h1, h2, h3, h4⟩, h5⟩ := h.body id _ hb
  exact ⟨g, vs.toArray, h1, h2, h3, h5, h4⟩
theorem HRel.map (h : HRel P W H V w) (id : Nm) (p : Bool) (cs : List PV) (φ : Nat → Obj → List Value → Prop) (hb : (H id).body = some (.raw p cs φ)) : ∃ g o vs, V id = z2g p g ∧ W.w.heap.size ≤ g ∧ w.heap[g]? = some o ∧ φ g o vs ∧ RpL W.Z H V w cs vs := by
  obtain ⟨vs, ⟨g, o, h1, h2, h3, h4⟩, h5⟩ := h.body id _ hb
  exact ⟨g, o, vs, h1, h2, h3, h4, h5⟩
theorem HRel.gw (h : HRel P W H V w) : GW w := W.gw.below h.below
theorem HRel.own_lt (h : HRel P W H V w) {id : Nm} {b : Nat} (hs : (H id).body.isSome = true) (hb : jv (V id) = some b) : W.w.heap.size ≤ b ∧ b < w.heap.size := by
  obtain ⟨bd, hbd⟩ := wcp.1 hs
  obtain ⟨vs, h1, _⟩ := h.body id bd hbd
  exact h1.lt hb
theorem HRel.grow {w' : World} (h : HRel P W H V w) (hb : Below w.heap.size w w') : HRel P W H V w' := by
  refine ⟨h.below.trans (hb.mono h.below.size), fun id bd hbd => ?_, fun i => (h.ghost i).grow hb, h.apart, fun b hz => wd1 (h.zlt b hz) hb.size, h.nz⟩
  obtain ⟨vs, h1, h2⟩ := h.body id bd hbd
  exact ⟨vs, h1.keep fun b hv => hb.block b (h1.lt hv).2, h2.mono fun p v hh => hh.grow hb⟩
end
structure Rel (P : Program) (W : Env) (n : Nat) (F : PFrame) (H : PHeap) (V : Nm → Value) (a : Act) (w : World) : Prop where
  heap : HRel P W H V w
  size : a.tmps.size = n
  defers : a.defers = W.ds
  slot : ∀ t, Rp W.Z H V w (F t) (a.tmps.getD t undef)
def ofV : Value → PV
  | .agg vs => .agg (vs.toList.map .u)
  | v => .u v
def evP (F : PFrame) : Operand → PV
  | .tmp t => F t
  | .const v => ofV v
  | .global _ => .unk
  | .func f => .fn (.func f) [] []
theorem Rp.ofV (Z : ZM) (H : PHeap) (V : Nm → Value) (w : World) (v : Value) : Rp Z H V w (ofV v) v := by
  cases v <;> first
    | exact .u _
    | (refine .agg _ _ (by simp) fun i p v h1 h2 => ?_
       simp only [wb9, wca] at h1
       obtain ⟨q, hq, rfl⟩ := h1
       rw [Array.getElem?_toList, h2] at hq
       cases hq
       exact .u _)
theorem Rp.eval {P : Program} {Z : ZM} {H : PHeap} {V : Nm → Value} {w : World} {F : PFrame} {a : Act} (x : Operand) (h : ∀ t, x = .tmp t → Rp Z H V w (F t) (a.tmps.getD t undef)) : Rp Z H V w (evP F x) (a.eval x) := by
  cases x with
  | tmp t => exact h t rfl
  | const v => exact Rp.ofV Z H V w v
  | global g => exact .unk _
  | func f => exact .fn _ [] [] #[] #[] rfl rfl (fun i p v h => by simp at h) (fun i p v h => by simp at h)
theorem Rel.put {P : Program} {W : Env} {n : Nat} {F : PFrame} {H : PHeap} {V : Nm → Value} {a : Act} {w w' : World} (h : Rel P W n F H V a w) (hb : Below w.heap.size w w') (d : Option Nat) (hd : ∀ t, d = some t → t < n) {p : PV} {v : Value} (hp : Rp W.Z H V w' p v) : Rel P W n (F.put d p) H V (a.put d v) w' := by
  refine ⟨h.heap.grow hb, ?_, ?_, fun t => ?_⟩
  · cases d <;> simp [Act.put, h.size]
  · cases d <;> simp [Act.put, h.defers]
  · cases d with
    | none => simpa [Act.put, PFrame.put] using (h.slot t).grow hb
    | some d =>
      by_cases e : d = t
      · subst e
        have := hd d rfl
        simpa [Act.put, PFrame.put, h.size, this] using hp
      · have e2 : ¬ (some d = some t) := by simpa using e
        simp only [PFrame.put, if_neg e2]
        have := (h.slot t).grow hb
        simpa [Act.put, wd3 e] using this
section
variable {P : Program} {W : Env} {n : Nat} {ops : Array Oper} {md : Region.Mode} {H : PHeap}
def PQ (P : Program) (W : Env) (o : Oper) (F : PFrame) (H : PHeap) (p : PV) : Prop :=
  ∀ (V : Nm → Value) (a : Act) (w : World), HRel P W H V w → (∀ t, Operand.tmp t ∈ o.op.operands → Rp W.Z H V w (F t) (a.tmps.getD t undef)) →
    o.wp P a w (fun a' w' => ∃ v, a' = a.put o.dst v ∧ Rp W.Z H V w' p v ∧ Below w.heap.size w w') (fun _ _ _ => False)
def zu (ops : Array Oper) (o : Oper) (F : PFrame) : Option Bool :=
  match o.guard with
  | none => some true
  | some (j, want) =>
    match (ops[j]?).bind (·.dst) with
    | none => none
    | some d =>
      match F d with
      | .u (.bool b) => some (b == want)
      | .u (.tuple _) => some false
      | _ => none
theorem Vv {o : Oper} {F : PFrame} {V : Nm → Value} {a : Act} {w : World} {b : Bool} (h : zu ops o F = some b) (hs : ∀ t, Rp W.Z H V w (F t) (a.tmps.getD t undef)) : Region.wanted o (yielded ops a.tmps) = b := by
  unfold zu at h
  unfold Region.wanted
  cases hg : o.guard with
  | none => rw [hg] at h; simpa using h
  | some gw =>
    obtain ⟨j, want⟩ := gw
    rw [hg] at h
    simp only at h ⊢
    cases hd : (ops[j]?).bind (·.dst) with
    | none => rw [hd] at h; cases h
    | some d =>
      rw [hd] at h
      simp only at h
      have hsd := hs d
      have hy : yielded ops a.tmps j = match a.tmps[d]? with | some (.bool b) => some b | _ => none := by
        unfold yielded; rw [hd]; rfl
      split at h
      · rename_i b' hF
        rw [hF] at hsd
        have : a.tmps.getD d undef = .bool b' := by generalize a.tmps.getD d undef = q at hsd; cases hsd; rfl
        have h2 : a.tmps[d]? = some (.bool b') := by
          rw [wcy] at this
          cases hq : a.tmps[d]? with
          | none => rw [hq] at this; simp [undef] at this
          | some q => rw [hq] at this; simpa using this
        rw [hy, h2]
        simpa using h
      · rename_i vs hF
        rw [hF] at hsd
        have : a.tmps.getD d undef = .tuple vs := by generalize a.tmps.getD d undef = q at hsd; cases hsd; rfl
        have h2 : yielded ops a.tmps j = none := by
          rw [hy]
          rw [wcy] at this
          cases hq : a.tmps[d]? with
          | none => rfl
          | some q => rw [hq] at this; simp at this; subst this; rfl
        rw [h2]
        simpa using h
      · cases h
def Jc (n : Nat) (o : Oper) : Prop := ∀ t, o.dst = some t → t < n
theorem Rel.drawn {F : PFrame} {V : Nm → Value} {a : Act} {w : World} (h : Rel P W n F H V a w) : Rel P W n F H V a { w with drawn := w.drawn + 1 } := by
  have hb : Below w.heap.size w { w with drawn := w.drawn + 1 } := ⟨rfl, rfl, rfl, wb7 _, fun _ _ => rfl⟩
  exact ⟨h.heap.grow hb, h.size, h.defers, fun t => (h.slot t).grow hb⟩
end
def _root_.Go.Sem.val {α : Type} (P : Program) : Sem α → Option α
  | .pure a => some a
  | .program k => (k P).val P
  | .mark _ k => k.val P
  | _ => none
theorem Y3 {α : Type} {P : Program} {s : Sem α} {a : α} (h : s.val P = some a) (w : World) : s.run P w = .ok a w := by
  induction s with
  | pure b => simp only [Sem.val, wco] at h; subst h; rfl
  | program k ih => simp only [Sem.val] at h; simp only [Sem.run]; exact ih P h
  | mark m k ih => simp only [Sem.val] at h; simp only [Sem.run]; exact ih h
  | _ => simp [Sem.val] at h
theorem qh {α β : Type} {P : Program} (s : Sem α) (f : α → Sem β) : (s >>= f).val P = (s.val P).bind fun a => (f a).val P := by
  show (s.bind f).val P = _
  induction s with
  | pure b => rfl
  | program k ih => simp only [Sem.bind, Sem.val]; exact ih P
  | mark m k ih => simp only [Sem.bind, Sem.val]; exact ih
  | _ => simp [Sem.bind, Sem.val]
theorem zkl {α β : Type} {P : Program} (s : Sem α) (f : α → β) : (f <$> s).val P = (s.val P).map f := by
  rw [← bind_pure_comp, qh]
  cases s.val P <;> rfl
theorem qj {α : Type} {P : Program} (a : α) : (Pure.pure a : Sem α).val P = some a := rfl
def esz (P : Program) (t : TypeId) : Option Nat := match P.underlying t with | some (.slice e) => (P.info? e).map (·.size) | _ => none
def arr (P : Program) (t : TypeId) : Option (Nat × Nat) := match P.underlying t with | some (.array n e) => (P.info? e).map fun i => (n, i.size) | _ => none
def zhr : TypeDesc → Bool | .struct _ | .array _ _ => true | _ => false
def asz (P : Program) (t : TypeId) : Option (Bool × Nat) := match P.underlying t with | some d => (P.info? t).map fun i => (zhr d, i.size) | none => none
def fof (P : Program) (s : TypeId) (f : Nat) : Option (Nat × TypeId) := match P.underlying s with | some (.struct fs) => (fs[f]?).map fun x => (x.offset, x.type) | _ => none
def z1q (P : Program) (t : TypeId) : Option TypeId := match P.underlying t with | some (.array _ e) => some e | _ => none
theorem zo2 {P : Program} {t : TypeId} {d : TypeDesc} (h : P.underlying t = some d) (w : World) : (isAgg t).run P w = .ok (zhr d) w := by
  unfold isAgg
  rw [Sem.run_bind, run_underlying h w]
  cases d <;> simp [zhr]
theorem zc4 {P : Program} {t : TypeId} {g : Bool} {k : Nat} (h : asz P t = some (g, k)) (w : World) : (isAgg t).run P w = .ok g w ∧ (sizeOf t).run P w = .ok k w := by
  unfold asz at h
  cases hu : P.underlying t with
  | none => rw [hu] at h; cases h
  | some d =>
    rw [hu] at h
    simp only at h
    cases hi : P.info? t with
    | none => rw [hi] at h; cases h
    | some i =>
      rw [hi] at h
      simp only [wcd, wco, wdl] at h
      obtain ⟨h1, h2⟩ := h
      exact ⟨by rw [zo2 hu w, h1], by simp [sizeOf, typeInfo, hi, h2]⟩
theorem Ze {P : Program} {t : TypeId} {k : Nat} (h : esz P t = some k) : ∃ e i, P.underlying t = some (.slice e) ∧ P.info? e = some i ∧ i.size = k := by
  unfold esz at h
  split at h
  · rename_i e hu
    cases hi : P.info? e with
    | none => rw [hi] at h; cases h
    | some i => rw [hi] at h; exact ⟨e, i, hu, hi, by simpa using h⟩
  · cases h
theorem zmo {P : Program} {t : TypeId} {n k : Nat} (h : arr P t = some (n, k)) : ∃ e i, P.underlying t = some (.array n e) ∧ P.info? e = some i ∧ i.size = k := by
  unfold arr at h
  split at h
  · rename_i m e hu
    cases hi : P.info? e with
    | none => rw [hi] at h; cases h
    | some i =>
      rw [hi] at h
      simp only [wcd, wco, wdl] at h
      obtain ⟨rfl, h2⟩ := h
      exact ⟨e, i, hu, hi, h2⟩
  · cases h
section
variable {P : Program} {W : Env} {H : PHeap} {F : PFrame}
theorem wab {o : Oper} {p : PV} (h : ∀ (V : Nm → Value) (a : Act) (w : World), HRel P W H V w → (∀ x ∈ o.op.operands, Rp W.Z H V w (evP F x) (a.eval x)) → ∃ v, (execOp a.eval o).run P w = .ok (.value v) w ∧ Rp W.Z H V w p v) : PQ P W o F H p := by
  intro V a w hr hs
  obtain ⟨v, hv, hp⟩ := h V a w hr fun x hx => Rp.eval (P := P) x fun t ht => hs t (by rw [← ht]; exact hx)
  unfold Oper.wp
  rw [hv]
  exact ⟨v, rfl, hp, Below.refl _ _⟩
def jx (H : PHeap) (id : Nm) (ver : Nat) : Option (List PV) :=
  match (H id).body with
  | some (.row _ _ _ cs) => if (H id).ver = ver then some cs else none
  | some (.box _ cs) => if (H id).ver = ver then some cs else none
  | some (.que _ _ _ cs) => if (H id).ver = ver then some cs else none
  | _ => none
def yh (H : PHeap) (id : Nm) (ver : Nat) : Option (TypeId × Nat × Nat × List PV) :=
  match (H id).body with
  | some (.row t k n cs) => if (H id).ver = ver then some (t, k, n, cs) else none
  | _ => none
theorem yc {id : Nm} {ver : Nat} {t k n cs} (h : yh H id ver = some (t, k, n, cs)) : (H id).body = some (.row t k n cs) ∧ (H id).ver = ver := by
  unfold yh at h
  split at h
  · rename_i t' k' n' cs' hb
    split at h
    · rename_i hv
      cases h
      exact ⟨hb, hv⟩
    · cases h
  · cases h
theorem zc7 {id : Nm} {ver : Nat} {cs : List PV} (hl : jx H id ver = some cs) : (H id).ver = ver ∧ ∃ bd, (H id).body = some bd ∧ bd.cs = cs ∧ ∀ p cs φ, bd ≠ .raw p cs φ := by
  unfold jx at hl
  split at hl <;> first
    | (cases hl; done)
    | (rename_i hb; split at hl <;> cases hl; rename_i hv; exact ⟨hv, _, hb, rfl, fun _ _ _ h => by cases h⟩)
theorem yg {id : Nm} {ver : Nat} {cs : List PV} (hl : jx H id ver = some cs) : (H id).body.isSome = true ∧ (H id).ver = ver := by
  obtain ⟨h1, bd, h2, _⟩ := zc7 hl
  exact ⟨by rw [h2]; rfl, h1⟩
theorem yf (b o n : Nat) : (⟨b, o, none⟩ : Addr).add n = ⟨b, o + n, none⟩ := by unfold Addr.add; split <;> simp_all
theorem zf8 {w : World} {m : Nat} {t : TypeId} {k n : Nat} {v : Value} {vs : List Value} (h : w.ownsRow m t k v n vs) {g : Nat} (hg : jv v = some g) (i : Nat) (u : Value) (hu : vs[i]? = some u) : w.cell? ⟨g, i, none⟩ = some u := by
  have hob : v.ownBlock = some g := by
    rcases h.2 with ⟨e, _⟩ | ⟨g', cap, cur, e, _⟩
    · rw [e] at hg; cases hg
    · rw [e] at hg ⊢; exact hg
  have := h.cells hob i u hu
  rwa [yf, wcx] at this
theorem PBody.Is.off0 {w : World} {m : Nat} {v : Value} {vs : List Value} {bd : PBody} (h : bd.Is w m v vs) (hq : ∀ t k n cs, bd ≠ .que t k n cs) : Jy v = 0 := by
  cases bd with
  | row t k n cs => rcases h.1.2 with ⟨e, _⟩ | ⟨g', cap, cur, e, _⟩ <;> rw [e] <;> rfl
  | box t cs => obtain ⟨g', rfl, _⟩ := h; rfl
  | raw p cs φ => obtain ⟨g, o, rfl, _⟩ := h; cases p <;> rfl
  | que t k n cs => exact absurd rfl (hq _ _ _ _)
theorem PBody.Is.cell {w : World} {m : Nat} {v : Value} {vs : List Value} {bd : PBody} (h : bd.Is w m v vs) (hn : ∀ p cs φ, bd ≠ .raw p cs φ) {g : Nat} (hg : jv v = some g) (i : Nat) (u : Value) (hu : vs[i]? = some u) : w.cell? ⟨g, Jy v + i, none⟩ = some u := by
  cases bd with
  | raw p cs φ => exact absurd rfl (hn _ _ _)
  | row t k n cs =>
    rw [PBody.Is.off0 (bd := .row t k n cs) h (fun _ _ _ _ h => by cases h), wcx]; exact zf8 h.1 hg i u hu
  | box t cs =>
    obtain ⟨g', rfl, _, hh, _⟩ := h
    cases hg
    have hlt : i < vs.toArray.size := by simpa using (wb3.1 hu).1
    show w.cell? ⟨g', 0 + i, none⟩ = _
    rw [wcx, cell_of_row w g' i _ t (0, 0) hh]; simpa using hu
  | que t k n cs =>
    obtain ⟨v0, off, pre, ho, hp, hd, _⟩ := h
    have hb := Jd hd
    rw [hg] at hb
    have h1 := zf8 ho hb.symm (pre.length + i) u (by rw [wce (by omega), wdg]; exact hu)
    obtain ⟨a, n0, c, a', rfl, rfl, h2, h3, h4⟩ := hd
    have hvl := (wb3.1 hu).1
    have hlen := ho.1
    rcases h4 with ⟨rfl, rfl⟩ | ⟨b, o, rfl, rfl, h5⟩
    · cases hg
    · have ho' : o = off * k := by
        rcases h5 with h5 | h5
        · exact h5
        · exfalso
          rcases ho.2 with ⟨e, _⟩ | ⟨g', cap, cur, e, _⟩
          · cases e
          · cases e
            have : n = 0 := by omega
            subst this
            simp only [wch, hp] at hlen
            simp only [wdb] at hlen
            omega
      cases hg
      show w.cell? ⟨b, o + i, none⟩ = _
      rw [ho', ← hp]; exact h1
theorem zro {V : Nm → Value} {w : World} (hr : HRel P W H V w) {id : Nm} {ver g : Nat} {cs : List PV} (hl : jx H id ver = some cs) (hg : jv (V id) = some g) :
    (H id).body.isSome = true ∧ (H id).ver = ver ∧ ∀ (i : Nat) (p : PV), cs[i]? = some p → ∃ v, w.cell? ⟨g, Jy (V id) + i, none⟩ = some v ∧ Rp W.Z H V w p v := by
  obtain ⟨h1, bd, h2, rfl, h3⟩ := zc7 hl
  obtain ⟨vs, h4, h5⟩ := hr.body id bd h2
  refine ⟨by rw [h2]; rfl, h1, fun i p hi => ?_⟩
  have hlt : i < vs.length := by rw [← h5.1]; exact (wb3.1 hi).1
  exact ⟨vs[i], h4.cell h3 hg i _ (wb5 hlt), h5.2 i p _ hi (wb5 hlt)⟩
def zi (ag : Bool) (k : Nat) (cs : List PV) : Option PV :=
  if ag then (if k ≤ cs.length then some (.agg (cs.take k)) else none) else cs[0]?
theorem zdn {V : Nm → Value} {w : World} {t : TypeId} {ag : Bool} {k : Nat} (ht : asz P t = some (ag, k)) {cs : List PV} {b o : Nat} (hc : ∀ (i : Nat) (p : PV), cs[i]? = some p → ∃ v, w.cell? ⟨b, o + i, none⟩ = some v ∧ Rp W.Z H V w p v) {q : PV} (hq : zi ag k cs = some q) :
    ∃ v, (loadVar t ⟨b, o, none⟩).run P w = .ok v w ∧ Rp W.Z H V w q v := by
  obtain ⟨h1, h2⟩ := zc4 ht w
  unfold zi at hq
  cases ag with
  | false =>
    simp only [wdi, if_false] at hq
    obtain ⟨v, hv, hp⟩ := hc 0 q hq
    refine ⟨v, ?_, hp⟩
    rw [wdb] at hv
    unfold loadVar
    simp [Sem.run_bind, h1, hv]
  | true =>
    simp only [if_true] at hq
    split at hq
    · rename_i hk
      cases hq
      have hcell : ∀ i, i < k → ∃ v, w.cell? ⟨b, o + i, none⟩ = some v ∧ ∀ p, cs[i]? = some p → Rp W.Z H V w p v := fun i hi => by
        obtain ⟨v, hv, hp⟩ := hc i cs[i] (wb5 (by omega))
        exact ⟨v, hv, fun p hp' => by rw [wb5 (by omega)] at hp'; cases hp'; exact hp⟩
      have hf : ∃ f : Nat → Value, ∀ i, i < k → w.cell? ⟨b, o + i, none⟩ = some (f i) ∧ ∀ p, cs[i]? = some p → Rp W.Z H V w p (f i) := by
        refine ⟨fun i => ((w.cell? ⟨b, o + i, none⟩).getD undef), fun i hi => ?_⟩
        obtain ⟨v, hv, hp⟩ := hcell i hi
        simp only [hv, wct]
        exact ⟨trivial, hp⟩
      obtain ⟨f, hf⟩ := hf
      have hl := run_loadCells (P := P) w ⟨b, o, none⟩ k f (fun j hj => by rw [yf]; exact (hf j hj).1)
      refine ⟨.agg ((range k).map f).toArray, by unfold loadVar; simp [Sem.run_bind, h1, h2, hl], .agg _ _ (by simp; omega) fun i p v h3 h4 => ?_⟩
      rw [wc6] at h3
      split at h3
      · rename_i hi
        have h5 : v = f i := by
          simp [hi] at h4
          exact h4.symm
        rw [h5]
        exact (hf i hi).2 p h3
      · cases h3
    · cases hq
def Qq (P : Program) (H : PHeap) (t : TypeId) (x : PV) : Option PV :=
  match asz P t with
  | none => none
  | some (ag, k) =>
    match x with
    | .rp cs => zi ag k cs
    | .pp id off ver => (jx H id ver).bind fun cs => zi ag k (cs.drop off)
    | _ => none
theorem zit {V : Nm → Value} {w : World} (hr : HRel P W H V w) {t : TypeId} {y q : PV} {v : Value} (hx : Rp W.Z H V w y v) (hq : Qq P H t y = some q) : ∃ u, (Instr.loadAt t v).run P w = .ok u w ∧ Rp W.Z H V w q u := by
  unfold Qq at hq
  cases ha : asz P t with
  | none => rw [ha] at hq; cases hq
  | some gk =>
    obtain ⟨ag, k⟩ := gk
    rw [ha] at hq
    simp only at hq
    split at hq
    · rename_i cs
      cases hx with
      | rp _ b o g hz hb h1 h2 =>
        obtain ⟨u, hu, hp⟩ := zdn ha (fun i p hi => ⟨g i, h1 i p hi, h2 i p hi⟩) hq
        exact ⟨u, by simp [Instr.loadAt, Instr.sureAddr, hu], hp⟩
    · rename_i id off ver
      cases hl : jx H id ver with
      | none => rw [hl] at hq; cases hq
      | some cs =>
        rw [hl] at hq
        simp only [wc4] at hq
        cases hx with
        | pp _ _ _ _ hv h =>
          have hlive := yg hl
          obtain ⟨g, hg, rfl⟩ := h hlive.1 hlive.2
          obtain ⟨_, _, hc⟩ := zro hr hl hg
          obtain ⟨u, hu, hp⟩ := zdn (P := P) (W := W) (H := H) (V := V) (w := w) (b := g) (o := Jy (V id) + off) ha (cs := cs.drop off) (fun i p hi => by
            rw [wcv] at hi
            rw [wd7]; exact hc _ p hi) hq
          exact ⟨u, by simp [Instr.loadAt, Instr.sureAddr, hu], hp⟩
    · cases hq
def fieldAddrP (P : Program) (H : PHeap) (s : TypeId) (f : Nat) (x : PV) : Option PV :=
  match fof P s f with
  | none => none
  | some (off, t) =>
    match asz P t with
    | some (_, k) => if k = 0 then none else
      match x with
      | .rp cs => some (.rp (cs.drop off))
      | .pp id o ver => (jx H id ver).map fun _ => .pp id (o + off) ver
      | _ => none
    | none => none
theorem zs2 {s : TypeId} {f off : Nat} {t : TypeId} (h : fof P s f = some (off, t)) : ∃ fs x, P.underlying s = some (.struct fs) ∧ fs[f]? = some x ∧ x.offset = off ∧ x.type = t := by
  unfold fof at h
  split at h
  · rename_i fs hu
    cases hx : fs[f]? with
    | none => rw [hx] at h; cases h
    | some x =>
      rw [hx] at h
      simp only [wcd, wco, wdl] at h
      exact ⟨fs, x, hu, hx, h.1, h.2⟩
  · cases h
theorem waw {V : Nm → Value} {w : World} {cs : List PV} {b o : Nat} (h : Rp W.Z H V w (.rp cs) (.pointer (some ⟨b, o, none⟩))) (d : Nat) : Rp W.Z H V w (.rp (cs.drop d)) (.pointer (some ⟨b, o + d, none⟩)) := by
  cases h with
  | rp _ _ _ g hz hb h1 h2 =>
    exact .rp _ b (o + d) (fun i => g (d + i)) hz hb (fun i p hi => by rw [wcv] at hi; rw [wd7]; exact h1 _ p hi) (fun i p hi => by rw [wcv] at hi; exact h2 _ p hi)
theorem zm2 {V : Nm → Value} {w : World} {s : TypeId} {f : Nat} {y q : PV} {v : Value} (hx : Rp W.Z H V w y v) (hq : fieldAddrP P H s f y = some q) :
    ∃ u, (Instr.fieldAt s v f).run P w = .ok u w ∧ Rp W.Z H V w q u := by
  unfold fieldAddrP at hq
  cases hf : fof P s f with
  | none => rw [hf] at hq; cases hq
  | some ot =>
    obtain ⟨off, t⟩ := ot
    rw [hf] at hq
    simp only at hq
    obtain ⟨fs, fx, hu, hfx, rfl, rfl⟩ := zs2 hf
    cases ha : asz P fx.type with
    | none => rw [ha] at hq; cases hq
    | some gk =>
      obtain ⟨ag, k⟩ := gk
      rw [ha] at hq
      simp only at hq
      split at hq
      · cases hq
      · rename_i hk
        have hsz := (zc4 ha w).2
        have hrun : ∀ b o, (Instr.fieldAt s (.pointer (some ⟨b, o, none⟩)) f).run P w = .ok (.pointer (some ⟨b, o + fx.offset, none⟩)) w := fun b o => by
          simp [Instr.fieldAt, run_underlying hu, hfx, Instr.sureAddr, fieldPlace, hsz, hk, yf]
        split at hq
        · rename_i cs
          cases hq
          cases hx with
          | rp _ b o g hz hb h1 h2 => exact ⟨_, hrun b o, waw (.rp cs b o g hz hb h1 h2) _⟩
        · rename_i id o ver
          cases hl : jx H id ver with
          | none => rw [hl] at hq; cases hq
          | some cs =>
            rw [hl] at hq
            cases hq
            obtain ⟨h1, h2⟩ := yg hl
            cases hx with
            | pp _ _ _ _ hv' h =>
              obtain ⟨g, hg, rfl⟩ := h h1 h2
              refine ⟨_, hrun g (Jy (V id) + o), .pp _ _ _ _ hv' fun _ _ => ⟨g, hg, ?_⟩⟩
              rw [wd7]
        · cases hq
end
section
variable {P : Program} {W : Env} {H : PHeap} {F : PFrame}
def PBody.kn : PBody → Option (Nat × Nat)
  | .row _ k n _ => some (k, n)
  | .que _ k n _ => some (k, n)
  | _ => none
def zae (H : PHeap) (id : Nm) (ver : Nat) : Option (Nat × Nat) := match (H id).body with
  | some bd => if (H id).ver = ver then bd.kn else none
  | none => none
theorem zsl {H : PHeap} {id : Nm} {ver : Nat} {q : Nat × Nat} (h : zae H id ver = some q) : (H id).ver = ver ∧ ∃ bd, (H id).body = some bd ∧ bd.kn = some q := by
  unfold zae at h
  split at h
  · rename_i bd hb
    split at h
    · exact ⟨by assumption, bd, hb, h⟩
    · cases h
  · cases h
theorem PBody.Is.shape {w : World} {m : Nat} {v : Value} {vs : List Value} {bd : PBody} {q : Nat × Nat} (h : bd.Is w m v vs) (hq : bd.kn = some q) : ∃ a c, v = .slice a q.2 c ∧ (0 < q.2 → ∃ b, a = some ⟨b, Jy v, none⟩) := by
  cases bd with
  | row t k n cs =>
    cases hq
    rcases h.1.2 with ⟨e, rfl⟩ | ⟨g', cap, cur, e, _⟩
    · exact ⟨none, 0, e, fun h => absurd h (Nat.lt_irrefl _)⟩
    · exact ⟨_, cap, e, fun _ => ⟨g', by rw [e]; rfl⟩⟩
  | que t k n cs =>
    cases hq
    obtain ⟨v0, off, pre, ho, hp, ⟨a, n0, c, a', h0, rfl, hon, hnc, h4⟩, _⟩ := h
    have hn0 : n0 = off + n := by
      rcases ho.2 with ⟨e, h5⟩ | ⟨g', cap, cur, e, _⟩
      · rw [e] at h0; cases h0; omega
      · rw [e] at h0; cases h0; rfl
    refine ⟨a', c - off, by rw [hn0, wdg], fun hpos => ?_⟩
    rcases h4 with ⟨rfl, rfl⟩ | ⟨b, o, rfl, rfl, _⟩
    · rcases ho.2 with ⟨e, h5⟩ | ⟨g', cap, cur, e, _⟩
      · simp only at hpos; omega
      · rw [e] at h0; cases h0
    · exact ⟨b, rfl⟩
  | box t cs => cases hq
  | raw p cs φ => cases hq
theorem PBody.Is.one {w : World} {m : Nat} {v : Value} {vs : List Value} {bd : PBody} (h : bd.Is w m v vs) : v.oneCell' = true := by
  cases bd with
  | row t k n cs => rcases h.1.2 with ⟨e, _⟩ | ⟨g', cap, cur, e, _⟩ <;> rw [e] <;> rfl
  | box t cs => obtain ⟨g, rfl, _⟩ := h; rfl
  | raw p cs φ => obtain ⟨g, o, rfl, _⟩ := h; cases p <;> rfl
  | que t k n cs => obtain ⟨v0, off, pre, _, _, ⟨a, n, c, a', _, rfl, _⟩, _⟩ := h; rfl
def yj (H : PHeap) : PV → Bool
  | .u v => v.oneCell'
  | .sl _ _ | .fr _ _ _ | .rp _ | .fn _ _ _ => true
  | .ps id ver => (H id).body.isSome && Nat.beq (H id).ver ver
  | .qs id _ _ ver => (yh H id ver).isSome
  | .pp id _ ver => (jx H id ver).isSome
  | _ => false
def okC (H : PHeap) : PV → Bool
  | .agg cs => cs.all (yj H)
  | p => yj H p
theorem Rp.leaf {V : Nm → Value} {w : World} (hr : HRel P W H V w) {p : PV} {v : Value} (h : Rp W.Z H V w p v) (hp : yj H p = true) : v.oneCell' = true := by
  cases h with
  | u v => exact hp
  | nil k a c => rfl
  | sl => rfl
  | fr t k xs v vals hu ho => rcases ho.2 with ⟨e, _⟩ | ⟨g, cap, cur, e, _⟩ <;> rw [e] <;> rfl
  | rp => rfl
  | fn => rfl
  | ps id ver v hv h =>
    simp only [yj, wb6] at hp
    rw [h hp.1 (wb2 hp.2)]
    obtain ⟨bd, hb⟩ := wcp.1 hp.1
    obtain ⟨vs, h1, _⟩ := hr.body id bd hb
    exact h1.one
  | qs id off k0 ver v hv h =>
    simp only [yj] at hp
    cases hl : yh H id ver with
    | none => rw [hl] at hp; cases hp
    | some q =>
      obtain ⟨t, k, n, cs⟩ := q
      obtain ⟨hb, hve⟩ := yc hl
      obtain ⟨a, n, c, a', _, e, _⟩ := h (by rw [hb]; rfl) hve
      rw [e]; rfl
  | pp id off ver v hv h =>
    simp only [yj] at hp
    cases hl : jx H id ver with
    | none => rw [hl] at hp; cases hp
    | some q =>
      obtain ⟨h1, h2⟩ := yg hl
      obtain ⟨g, _, rfl⟩ := h h1 h2
      rfl
  | _ => simp [yj] at hp
theorem Rp.cells {V : Nm → Value} {w : World} (hr : HRel P W H V w) {p : PV} {v : Value} (h : Rp W.Z H V w p v) (hp : okC H p = true) : RpL W.Z H V w p.cells v.cells.toList ∧ ∀ u ∈ v.cells.toList, u.oneCell' = true := by
  cases h with
  | agg cs vs hl hc =>
    simp only [okC, wcz] at hp
    refine ⟨⟨by simpa [PV.cells, Value.cells] using hl, fun i p v h1 h2 => hc i p v h1 (by simpa [Value.cells] using h2)⟩, fun u hu => ?_⟩
    simp only [Value.cells] at hu
    obtain ⟨i, hi, rfl⟩ := wem hu
    have hi' : i < vs.size := by simpa using hi
    have hic : i < cs.length := by omega
    have := hc i cs[i] vs[i] (wb5 hic) (wcn hi')
    have := this.leaf hr (hp _ (wei hic))
    simpa using this
  | tup => simp [okC, yj] at hp
  | unk => simp [okC, yj] at hp
  | u v =>
    have h1 : v.oneCell' = true := hp
    have hc : v.cells = #[v] := by cases v <;> first | rfl | simp [Value.oneCell'] at h1
    rw [hc]
    exact ⟨⟨rfl, fun i p u h1 h2 => by
      cases i with
      | zero => simp [PV.cells] at h1 h2; subst h1 h2; exact .u _
      | succ i => simp [PV.cells] at h1⟩, by simpa using h1⟩
  | nil k a c =>
    exact ⟨⟨rfl, fun i p u h1 h2 => by
      cases i with
      | zero => simp [PV.cells, Value.cells] at h1 h2; subst h1 h2; exact .nil _ _ _
      | succ i => simp [PV.cells] at h1⟩, by simp [Value.cells, Value.oneCell']⟩
  | sl k xs b o c g hu hlen hz hb h1 h2 =>
    exact ⟨⟨rfl, fun i p u h3 h4 => by
      cases i with
      | zero => simp [PV.cells, Value.cells] at h3 h4; subst h3 h4; exact .sl k xs b o c g hu hlen hz hb h1 h2
      | succ i => simp [PV.cells] at h3⟩, by simp [Value.cells, Value.oneCell']⟩
  | fr t k xs v vals hu ho hz h1 h2 =>
    have h1' : v.oneCell' = true := Rp.leaf hr (.fr t k xs v vals hu ho hz h1 h2) hp
    have hc : v.cells = #[v] := by cases v <;> first | rfl | simp [Value.oneCell'] at h1'
    rw [hc]
    exact ⟨⟨rfl, fun i p u h3 h4 => by
      cases i with
      | zero => simp [PV.cells] at h3 h4; subst h3 h4; exact .fr t k xs _ vals hu ho hz h1 h2
      | succ i => simp [PV.cells] at h3⟩, by simpa using h1'⟩
  | rp cs b o g hz hb h1 h2 =>
    exact ⟨⟨rfl, fun i p u h3 h4 => by
      cases i with
      | zero => simp [PV.cells, Value.cells] at h3 h4; subst h3 h4; exact .rp cs b o g hz hb h1 h2
      | succ i => simp [PV.cells] at h3⟩, by simp [Value.cells, Value.oneCell']⟩
  | fn f a b va vb hla hlb ha hb =>
    exact ⟨⟨rfl, fun i p u h3 h4 => by
      cases i with
      | zero => simp [PV.cells, Value.cells] at h3 h4; subst h3 h4; exact .fn f a b va vb hla hlb ha hb
      | succ i => simp [PV.cells] at h3⟩, by simp [Value.cells, Value.oneCell']⟩
  | ps id ver v hv h =>
    have h1 : v.oneCell' = true := Rp.leaf hr (.ps id ver v hv h) hp
    have hc : v.cells = #[v] := by cases v <;> first | rfl | simp [Value.oneCell'] at h1
    rw [hc]
    exact ⟨⟨rfl, fun i p u h3 h4 => by
      cases i with
      | zero => simp [PV.cells] at h3 h4; subst h3 h4; exact .ps id ver _ hv h
      | succ i => simp [PV.cells] at h3⟩, by simpa using h1⟩
  | qs id off k0 ver v hv h =>
    have h1 : v.oneCell' = true := Rp.leaf hr (.qs id off k0 ver v hv h) hp
    have hc : v.cells = #[v] := by cases v <;> first | rfl | simp [Value.oneCell'] at h1
    rw [hc]
    exact ⟨⟨rfl, fun i p u h3 h4 => by
      cases i with
      | zero => simp [PV.cells] at h3 h4; subst h3 h4; exact .qs id off k0 ver _ hv h
      | succ i => simp [PV.cells] at h3⟩, by simpa using h1⟩
  | pp id off ver v hv h =>
    have h1 : v.oneCell' = true := Rp.leaf hr (.pp id off ver v hv h) hp
    have hc : v.cells = #[v] := by cases v <;> first | rfl | simp [Value.oneCell'] at h1
    rw [hc]
    exact ⟨⟨rfl, fun i p u h3 h4 => by
      cases i with
      | zero => simp [PV.cells] at h3 h4; subst h3 h4; exact .pp id off ver _ hv h
      | succ i => simp [PV.cells] at h3⟩, by simpa using h1⟩
def zog : PV → Option Value
  | .u v => some v
  | _ => none
def PV.val2 : PV → Option Value
  | .u v => some v
  | .agg cs => (cs.mapM zog).map fun l => .agg l.toArray
  | _ => none
theorem zmv : ∀ {cs : List PV} {l : List Value}, cs.mapM zog = some l → cs = l.map .u
  | [], l, h => by simp at h; subst h; rfl
  | c :: cs, l, h => by
    simp only [wds, bind_pure_comp, Option.bind_eq_bind] at h
    cases hc : zog c with
    | none => rw [hc] at h; cases h
    | some v =>
      cases hm : cs.mapM zog with
      | none => rw [hc, hm] at h; cases h
      | some m =>
        rw [hc, hm] at h
        simp at h
        subst h
        have : c = .u v := by cases c <;> simp [zog] at hc; subst hc; rfl
        rw [this, zmv hm]
        rfl
theorem Rp.val2 {V : Nm → Value} {w : World} {p : PV} {v u : Value} (h : Rp W.Z H V w p v) (hp : p.val2 = some u) : v = u := by
  cases h with
  | u v => simpa [PV.val2] using hp
  | agg cs vs hl hc =>
    simp only [PV.val2, wca] at hp
    obtain ⟨l, hl2, rfl⟩ := hp
    have e := zmv hl2
    subst e
    congr 1
    apply Array.ext'
    apply wdt
    intro i
    simp only [wcs] at hl
    by_cases hi : i < l.length
    · have h1 : (l.map PV.u)[i]? = some (.u l[i]) := by simp [hi]
      have hi2 : i < vs.size := by omega
      have h2 := hc i _ vs[i] h1 (wcn hi2)
      have h3 : vs[i] = l[i] := by generalize vs[i] = q at h2; cases h2; rfl
      simp [hi, hi2, h3]
    · rw [wdn (by simp; omega), wdn (by simpa using hi)]
  | _ => simp [PV.val2] at hp
def ya (P : Program) (op : BinOp) (t : TypeId) (x y : Operand) (p q : PV) : Option PV :=
  match p.val2, q.val2 with
  | some a, some b => ((do eqGuard op t x y a b; binOp op t a b : Sem Value).val P).map ofV
  | _, _ => none
def unP (P : Program) (op : UnOp) (p : PV) : Option PV :=
  match p.val2 with
  | some a => ((Op.unary op a).val P).map ofV
  | none => none
def zwi (P : Program) (s d : TypeId) (p : PV) : Option PV :=
  match p.val2 with
  | some a => ((convert s d a).val P).map ofV
  | none => none
def zqe (P : Program) (b : Builtin) (ts : Array TypeId) (ty : TypeId) (ps : List PV) : Option PV :=
  match ps.mapM PV.val2 with
  | some vs =>
    match b with
    | .min => ((Builtin.min_ ts ty vs.toArray).val P).map ofV
    | .max => ((Builtin.max_ ts ty vs.toArray).val P).map ofV
    | _ => none
  | none => none
def Qx (P : Program) (t : TypeId) : Bool := match P.underlying t with | some (.slice _) => true | _ => false
def Yc (P : Program) (t : TypeId) : Bool := match P.underlying t with | some .string => true | _ => false
def lenP (P : Program) (H : PHeap) (t : TypeId) (p : PV) : Option PV :=
  match p with
  | .sl _ xs => if Qx P t then some (.u (.int .i64 xs.length)) else none
  | .ps id ver => if Qx P t then (zae H id ver).map fun q => .u (.int .i64 q.2) else none
  | .u (.slice _ n _) => if Qx P t then some (.u (.int .i64 n)) else none
  | .u (.string s) => if Yc P t then some (.u (.int .i64 s.size)) else none
  | _ => none
theorem V4 {t : TypeId} (ht : Qx P t = true) (ty : TypeId) (a : Option Addr) (n c : Nat) (w : World) : (Builtin.len_ #[t] ty #[.slice a n c]).run P w = .ok (.int .i64 n) w := by
  unfold Qx at ht
  split at ht
  · rename_i e hu
    simp [Builtin.len_, run_underlying hu, goInt]
  · cases ht
theorem zti {t : TypeId} (ht : Yc P t = true) (ty : TypeId) (s : ByteArray) (w : World) : (Builtin.len_ #[t] ty #[.string s]).run P w = .ok (.int .i64 s.size) w := by
  unfold Yc at ht
  split at ht
  · rename_i hu
    simp [Builtin.len_, run_underlying hu, goInt]
  · cases ht
theorem HRel.rs_shape {V : Nm → Value} {w : World} (hr : HRel P W H V w) {id : Nm} {ver : Nat} {q} (h : zae H id ver = some q) {v : Value} (hv : Rp W.Z H V w (.ps id ver) v) : v = V id ∧ ∃ a c, v = .slice a q.2 c ∧ (0 < q.2 → ∃ b, a = some ⟨b, Jy v, none⟩) := by
  obtain ⟨hve, bd, hb, hk⟩ := zsl h
  cases hv with
  | ps _ _ _ hvv hh =>
    rw [hh (by rw [hb]; rfl) hve]
    obtain ⟨vs, h1, _⟩ := hr.body id bd hb
    exact ⟨rfl, h1.shape hk⟩
theorem Rp.sl_shape {V : Nm → Value} {w : World} {k : Nat} {xs : List PV} {v : Value} (h : Rp W.Z H V w (.sl k xs) v) : ∃ a c, v = .slice a xs.length c ∧ xs.length ≤ c ∨ xs = [] ∧ v = .slice a 0 c := by
  cases h with
  | nil k a c => exact ⟨a, c, .inr ⟨rfl, rfl⟩⟩
  | sl k xs b o c g hu hlen => exact ⟨_, c, .inl ⟨rfl, hlen⟩⟩
theorem z0h {V : Nm → Value} {w : World} (hr : HRel P W H V w) {t ty : TypeId} {y q : PV} {v : Value} (hx : Rp W.Z H V w y v) (hq : lenP P H t y = some q) : ∃ u, (Builtin.len_ #[t] ty #[v]).run P w = .ok u w ∧ Rp W.Z H V w q u := by
  unfold lenP at hq
  split at hq
  · split at hq
    · rename_i xs ht
      cases hq
      obtain ⟨a, c, ⟨rfl, _⟩ | ⟨rfl, rfl⟩⟩ := hx.sl_shape
      · exact ⟨_, V4 ht ty _ _ _ _, .u _⟩
      · exact ⟨_, V4 ht ty _ _ _ _, .u _⟩
    · cases hq
  · split at hq
    · rename_i id ver ht
      cases hl : zae H id ver with
      | none => rw [hl] at hq; cases hq
      | some r =>
        rw [hl] at hq
        cases hq
        obtain ⟨_, a, c, rfl, _⟩ := hr.rs_shape hl hx
        exact ⟨_, V4 ht ty _ _ _ _, .u _⟩
    · cases hq
  · split at hq
    · rename_i ht
      cases hq
      cases hx
      exact ⟨_, V4 ht ty _ _ _ _, .u _⟩
    · cases hq
  · split at hq
    · rename_i ht
      cases hq
      cases hx
      exact ⟨_, zti ht ty _ _, .u _⟩
    · cases hq
  · cases hq
theorem zpp {k : Nat} : ∀ {xs : List PV}, (∀ y ∈ xs, y.cells.length = k) → ∀ (i j : Nat) (y : PV), xs[i]? = some y → j < k → (xs.flatMap PV.cells)[i * k + j]? = y.cells[j]?
  | [], _, i, j, y, h, _ => by simp at h
  | x :: xs, hu, 0, j, y, h, hj => by
    simp at h
    subst h
    have hx := hu x (by simp)
    rw [wci, Nat.zero_mul, wcx, wcc (by omega)]
  | x :: xs, hu, i + 1, j, y, h, hj => by
    have hx := hu x (by simp)
    simp only [wdy] at h
    rw [wci, wce (by rw [hx, wc3]; omega), hx, show (i + 1) * k + j - k = i * k + j by rw [wc3]; omega]
    exact zpp (fun y hy => hu y (by simp [hy])) i j y h hj
def indexAddrP (P : Program) (H : PHeap) (t : TypeId) (p i : PV) : Option PV :=
  match i with
  | .u (.int _ z) =>
    if 0 ≤ z then
      match p with
      | .sl k xs => if esz P t = some k then (xs[z.toNat]?).map fun y => .rp y.cells else none
      | .ps id ver =>
        match zae H id ver with
        | some (k, n) => if esz P t = some k ∧ z.toNat < n then some (.pp id (z.toNat * k) ver) else none
        | none => none
      | .pp id off ver =>
        match arr P t with
        | some (n, k) => if z.toNat < n then (jx H id ver).map fun _ => .pp id (off + z.toNat * k) ver else none
        | none => none
      | .rp cs =>
        match arr P t with
        | some (n, k) => if z.toNat < n then some (.rp (cs.drop (z.toNat * k))) else none
        | none => none
      | _ => none
    else none
  | _ => none
theorem Z7 {t e : TypeId} {i : TypeInfo} (ht : P.underlying t = some (.slice e)) (hi : P.info? e = some i) (w : World) (b o n c : Nat) (kd : IntKind) (z : Int) (h0 : 0 ≤ z) (hz : z.toNat < n) :
    (Instr.indexAt t (.slice (some ⟨b, o, none⟩) n c) (.int kd z)).run P w = .ok (.pointer (some ⟨b, o + z.toNat * i.size, none⟩)) w := by
  have hz' : z < n := by omega
  simp [Instr.indexAt, run_underlying ht, asIntOf, sizeOf, typeInfo, hi, h0, hz', yf]
theorem zci {t e : TypeId} {i : TypeInfo} {n : Nat} (ht : P.underlying t = some (.array n e)) (hi : P.info? e = some i) (w : World) (b o : Nat) (kd : IntKind) (z : Int) (h0 : 0 ≤ z) (hz : z.toNat < n) :
    (Instr.indexAt t (.pointer (some ⟨b, o, none⟩)) (.int kd z)).run P w = .ok (.pointer (some ⟨b, o + z.toNat * i.size, none⟩)) w := by
  have hz' : z < n := by omega
  simp [Instr.indexAt, Instr.sureAddr, run_underlying ht, asIntOf, sizeOf, typeInfo, hi, h0, hz', yf]
theorem zm9 {V : Nm → Value} {w : World} (hr : HRel P W H V w) {t : TypeId} {y i q : PV} {v u : Value} (hx : Rp W.Z H V w y v) (hi : Rp W.Z H V w i u) (hq : indexAddrP P H t y i = some q) :
    ∃ r, (Instr.indexAt t v u).run P w = .ok r w ∧ Rp W.Z H V w q r := by
  unfold indexAddrP at hq
  split at hq
  rotate_left
  · cases hq
  rename_i kd z
  cases hi
  split at hq
  rotate_left
  · cases hq
  rename_i h0
  split at hq
  · rename_i k xs
    split at hq
    · rename_i he
      obtain ⟨e, ti, ht, hti, rfl⟩ := Ze he
      cases hy : xs[z.toNat]? with
      | none => rw [hy] at hq; cases hq
      | some y =>
        rw [hy] at hq
        cases hq
        cases hx with
        | nil => simp at hy
        | sl k xs b o c g hu hlen hz hb h1 h2 =>
          have hlt := (wb3.1 hy).1
          refine ⟨_, Z7 ht hti w b o xs.length c kd z h0 hlt, .rp _ b _ (fun j => g (z.toNat * ti.size + j)) hz hb (fun j p hj => ?_) (fun j p hj => ?_)⟩
          · have hjk : j < ti.size := by rw [← hu y (wb8 hy)]; exact (wb3.1 hj).1
            have := h1 (z.toNat * ti.size + j) p (by rw [zpp hu _ j y hy hjk]; exact hj)
            rw [← wd7] at this
            exact this
          · have hjk : j < ti.size := by rw [← hu y (wb8 hy)]; exact (wb3.1 hj).1
            exact h2 (z.toNat * ti.size + j) p (by rw [zpp hu _ j y hy hjk]; exact hj)
    · cases hq
  · rename_i id ver
    split at hq
    · rename_i k n hl
      split at hq
      · rename_i hc
        cases hq
        obtain ⟨e, ti, ht, hti, rfl⟩ := Ze hc.1
        obtain ⟨eV, a, c, hv, hb⟩ := hr.rs_shape hl hx
        obtain ⟨b, rfl⟩ := hb (by have := hc.2; simp only; omega)
        have hof : Jy v = Jy (V id) := by rw [eV]
        cases hx with
        | ps _ _ _ hvv hh =>
          rw [hv]
          refine ⟨_, Z7 ht hti w b _ n c kd z h0 hc.2, .pp _ _ _ _ hvv fun _ _ => ⟨b, by rw [← eV, hv]; rfl, by rw [hof]⟩⟩
      · cases hq
    · cases hq
  · rename_i id off ver
    split at hq
    · rename_i n k ha
      split at hq
      · rename_i hn
        cases hl : jx H id ver with
        | none => rw [hl] at hq; cases hq
        | some cs =>
          rw [hl] at hq
          cases hq
          obtain ⟨h1, h2⟩ := yg hl
          obtain ⟨e, ti, ht, hti, rfl⟩ := zmo ha
          cases hx with
          | pp _ _ _ _ hv' h =>
            obtain ⟨g, hg, rfl⟩ := h h1 h2
            refine ⟨_, zci ht hti w g (Jy (V id) + off) kd z h0 hn, .pp _ _ _ _ hv' fun _ _ => ⟨g, hg, ?_⟩⟩
            rw [wd7]
      · cases hq
    · cases hq
  · rename_i cs
    split at hq
    · rename_i n k ha
      split at hq
      · rename_i hn
        cases hq
        obtain ⟨e, ti, ht, hti, rfl⟩ := zmo ha
        cases hx with
        | rp _ b o g hz hb h1 h2 => exact ⟨_, zci ht hti w b o kd z h0 hn, waw (W := W) (.rp cs b o g hz hb h1 h2) _⟩
      · cases hq
    · cases hq
  · cases hq
def zo3 (P : Program) (t : TypeId) (cs : List PV) (off : Nat) : Option PV :=
  match asz P t with
  | some (ag, k) => zi ag k (cs.drop off)
  | none => none
theorem zpc {V : Nm → Value} {w : World} {t : TypeId} {cs : List PV} {vs : Array Value} {off : Nat} {q : PV} (hl : cs.length = vs.size) (hc : ∀ (i : Nat) (p : PV) (v : Value), cs[i]? = some p → vs[i]? = some v → Rp W.Z H V w p v) (hq : zo3 P t cs off = some q) :
    ∃ u, (part t vs off).run P w = .ok u w ∧ Rp W.Z H V w q u := by
  unfold zo3 at hq
  cases ha : asz P t with
  | none => rw [ha] at hq; cases hq
  | some gk =>
    obtain ⟨ag, k⟩ := gk
    rw [ha] at hq
    simp only at hq
    obtain ⟨h1, h2⟩ := zc4 ha w
    unfold zi at hq
    cases ag with
    | false =>
      simp only [wdi, if_false, wcv, wdb] at hq
      have hlt := (wb3.1 hq).1
      have hv := wcn (xs := vs) (show off < vs.size by omega)
      exact ⟨vs[off]'(by omega), by unfold part; simp [Sem.run_bind, h1, hv], hc off q _ hq hv⟩
    | true =>
      simp only [if_true, wd9] at hq
      split at hq
      · rename_i hk
        cases hq
        refine ⟨.agg (vs.extract off (off + k)), by unfold part; simp [Sem.run_bind, h1, h2], ?_⟩
        refine .agg _ _ (by simp; omega) fun i p v h3 h4 => ?_
        rw [wc6] at h3
        split at h3
        · rename_i hi
          rw [wcv] at h3
          refine hc (off + i) p v h3 ?_
          rw [Array.getElem?_extract] at h4
          split at h4
          · exact h4
          · cases h4
        · cases h3
      · cases hq
def zpn (P : Program) (t : TypeId) (f : Nat) (p : PV) : Option PV :=
  match fof P t f, p with
  | some (off, ft), .agg cs => zo3 P ft cs off
  | _, _ => none
theorem zup {V : Nm → Value} {w : World} {t : TypeId} {f : Nat} {y q : PV} {v : Value} (hx : Rp W.Z H V w y v) (hq : zpn P t f y = some q) : ∃ u, (Instr.field t v f).run P w = .ok u w ∧ Rp W.Z H V w q u := by
  unfold zpn at hq
  split at hq
  · rename_i off ft cs hf
    obtain ⟨fs, fx, hu, hfx, rfl, rfl⟩ := zs2 hf
    cases hx with
    | agg _ vs hl hc =>
      obtain ⟨u, hu2, hp⟩ := zpc hl hc hq
      exact ⟨u, by simp [Instr.field, run_underlying hu, hfx, asAgg, hu2], hp⟩
  · cases hq
def ze0 (P : Program) (t : TypeId) (p i : PV) : Option PV :=
  match i with
  | .u (.int kd z) =>
    match p with
    | .agg cs =>
      match arr P t, z1q P t with
      | some (n, k), some e => if 0 ≤ z ∧ z.toNat < n then zo3 P e cs (z.toNat * k) else none
      | _, _ => none
    | .u (.string s) => if Yc P t then (if 0 ≤ z then (s[z.toNat]?).map fun b => .u (.int .u8 b.toNat) else none) else none
    | _ => none
  | _ => none
theorem zuu {V : Nm → Value} {w : World} {t : TypeId} {y i q : PV} {v u : Value} (hx : Rp W.Z H V w y v) (hi : Rp W.Z H V w i u) (hq : ze0 P t y i = some q) : ∃ r, (Instr.index t v u).run P w = .ok r w ∧ Rp W.Z H V w q r := by
  unfold ze0 at hq
  split at hq
  rotate_left
  · cases hq
  rename_i kd z
  cases hi
  split at hq
  · rename_i cs
    split at hq
    · rename_i n k e ha he
      split at hq
      · rename_i hz
        obtain ⟨e', ti, ht, hti, rfl⟩ := zmo ha
        have hee : e' = e := by unfold z1q at he; rw [ht] at he; simpa using he
        subst hee
        cases hx with
        | agg _ vs hl hc =>
          obtain ⟨r, hr, hp⟩ := zpc hl hc hq
          have hz' : z < n := by omega
          exact ⟨r, by simp [Instr.index, run_underlying ht, asIntOf, hz.1, hz', sizeOf, typeInfo, hti, hr], hp⟩
      · cases hq
    · cases hq
  · rename_i s
    cases hx
    split at hq
    · rename_i hs
      split at hq
      · rename_i h0
        cases hb : s[z.toNat]? with
        | none => rw [hb] at hq; cases hq
        | some b =>
          rw [hb] at hq
          cases hq
          unfold Yc at hs
          split at hs
          · rename_i hu
            exact ⟨_, by simp [Instr.index, run_underlying hu, asIntOf, h0, hb], .u _⟩
          · cases hs
      · cases hq
    · cases hq
  · cases hq
def zbv (d : Nat) : Option PV → Option Nat
  | none => some d
  | some (.u (.int _ z)) => if 0 ≤ z then some z.toNat else none
  | _ => none
def zg2 (P : Program) (t : TypeId) (p : PV) (lo hi : Option PV) : Option PV :=
  match p with
  | .sl k xs =>
    match zbv 0 lo, zbv xs.length hi with
    | some l, some h => if esz P t = some k ∧ l ≤ h ∧ h ≤ xs.length then some (.sl k ((xs.take h).drop l)) else none
    | _, _ => none
  | .u (.string s) =>
    match zbv 0 lo, zbv s.size hi with
    | some l, some h => if Yc P t ∧ l ≤ h ∧ h ≤ s.size then some (.u (.string (s.extract l h))) else none
    | _, _ => none
  | _ => none
theorem Q7 {w : World} {kd : IntKind} {z : Int} (h0 : 0 ≤ z) {n : Nat} (hz : z.toNat ≤ n) (c : BoundsCode) : (Instr.sliceBound (.int kd z) n c).run P w = .ok z.toNat w := by
  have : z ≤ n := by omega
  simp [Instr.sliceBound, asIntOf, h0, this]
theorem zb2 {V : Nm → Value} {w : World} {d l : Nat} {lo : Option PV} {vo : Option Value} (hlo : ∀ p v, lo = some p → vo = some v → Rp W.Z H V w p v) (hs : lo.isSome = vo.isSome) (hb : zbv d lo = some l) :
    (vo = none ∧ l = d) ∨ ∃ kd z, vo = some (.int kd z) ∧ 0 ≤ z ∧ z.toNat = l := by
  cases lo with
  | none =>
    cases vo with
    | none => simp [zbv] at hb; exact .inl ⟨rfl, hb.symm⟩
    | some v => cases hs
  | some p =>
    cases vo with
    | none => cases hs
    | some v =>
      have hp := hlo p v rfl rfl
      unfold zbv at hb
      split at hb
      · rename_i h; cases h
      · rename_i kd z h
        cases h
        split at hb
        · rename_i h0
          cases hb
          cases hp
          exact .inr ⟨kd, z, rfl, h0, rfl⟩
        · cases hb
      · cases hb
theorem zgv {k : Nat} : ∀ {xs : List PV}, (∀ y ∈ xs, y.cells.length = k) → ∀ m, (xs.take m).flatMap PV.cells = (xs.flatMap PV.cells).take (m * k)
  | [], _, m => by simp
  | x :: xs, hu, 0 => by simp
  | x :: xs, hu, m + 1 => by
    have hx := hu x (by simp)
    rw [List.take_succ_cons, wci, wci, zgv (fun y hy => hu y (by simp [hy])) m, List.take_append, hx, wc3, Nat.one_mul, Nat.add_sub_cancel, wdr (show x.cells.length ≤ m * k + k by omega)]
theorem zgu {k : Nat} : ∀ {xs : List PV}, (∀ y ∈ xs, y.cells.length = k) → ∀ m, (xs.drop m).flatMap PV.cells = (xs.flatMap PV.cells).drop (m * k)
  | [], _, m => by simp
  | x :: xs, hu, 0 => by simp
  | x :: xs, hu, m + 1 => by
    have hx := hu x (by simp)
    rw [List.drop_succ_cons, wci, zgu (fun y hy => hu y (by simp [hy])) m, List.drop_append, hx, wc3, Nat.one_mul, Nat.add_sub_cancel, List.drop_of_length_le (show x.cells.length ≤ m * k + k by omega), wc2]
theorem wbs {V : Nm → Value} {w : World} {k : Nat} {xs : List PV} {b o c : Nat} (h : Rp W.Z H V w (.sl k xs) (.slice (some ⟨b, o, none⟩) xs.length c)) (l m c' : Nat) (hl : l ≤ m) (hm : m ≤ xs.length) (hc : m - l ≤ c') (hpos : xs ≠ []) : Rp W.Z H V w (.sl k ((xs.take m).drop l)) (.slice (some ⟨b, o + l * k, none⟩) (m - l) c') := by
  cases h with
  | nil => exact absurd rfl hpos
  | sl _ _ _ _ _ g hu hlen hz hb h1 h2 =>
    have hlen' : ((xs.take m).drop l).length = m - l := by simp; omega
    have hut : ∀ y ∈ xs.take m, y.cells.length = k := fun y hy => hu y (wdx hy)
    have hget : ∀ (i : Nat) (p : PV), (((xs.take m).drop l).flatMap PV.cells)[i]? = some p → (xs.flatMap PV.cells)[l * k + i]? = some p := fun i p hi => by
      rw [zgu hut, wcv, zgv hu, wc6] at hi
      split at hi
      · exact hi
      · cases hi
    have := Rp.sl (Z := W.Z) (H := H) (V := V) (w := w) k ((xs.take m).drop l) b (o + l * k) c' (fun i => g (l * k + i)) (fun y hy => hut y (weg hy)) (by rw [hlen']; exact hc) hz hb (fun i p hi => by rw [wd7]; exact h1 _ p (hget i p hi)) (fun i p hi => h2 _ p (hget i p hi))
    rwa [hlen'] at this
theorem vu {w : World} {isS : Bool} {len cap l h : Nat} {lo hi : Option Value} (hlo : (lo = none ∧ l = 0) ∨ ∃ kd z, lo = some (.int kd z) ∧ 0 ≤ z ∧ z.toNat = l) (hhi : (hi = none ∧ h = len) ∨ ∃ kd z, hi = some (.int kd z) ∧ 0 ≤ z ∧ z.toNat = h) (h1 : l ≤ h) (h2 : h ≤ cap) :
    (Instr.sliceBounds isS len cap lo hi none).run P w = .ok (l, h, cap) w := by
  unfold Instr.sliceBounds
  rcases hhi with ⟨rfl, rfl⟩ | ⟨kd, z, rfl, h0, rfl⟩
  · rcases hlo with ⟨rfl, rfl⟩ | ⟨kd', z', rfl, h0', rfl⟩
    · simp
    · simp [Q7 h0' h1]
  · rcases hlo with ⟨rfl, rfl⟩ | ⟨kd', z', rfl, h0', rfl⟩
    · simp [Q7 h0 h2]
    · simp [Q7 h0 h2, Q7 h0' h1]
theorem zuj {V : Nm → Value} {w : World} {t : TypeId} {y q : PV} {lo hi : Option PV} {v : Value} {vl vh : Option Value} (hx : Rp W.Z H V w y v) (hlo : ∀ p v, lo = some p → vl = some v → Rp W.Z H V w p v) (hsl : lo.isSome = vl.isSome) (hhi : ∀ p v, hi = some p → vh = some v → Rp W.Z H V w p v) (hsh : hi.isSome = vh.isSome)
    (hq : zg2 P t y lo hi = some q) : ∃ r, (Instr.sliceAt t v vl vh none).run P w = .ok r w ∧ Rp W.Z H V w q r := by
  unfold zg2 at hq
  split at hq
  · rename_i k xs
    split at hq
    · rename_i l h hl hh
      split at hq
      · rename_i hc
        cases hq
        obtain ⟨hk, h1, h2⟩ := hc
        obtain ⟨e, ti, ht, hti, rfl⟩ := Ze hk
        have hlo' := zb2 hlo hsl hl
        have hhi' := zb2 hhi hsh hh
        obtain ⟨a, c, ⟨rfl, hcap⟩ | ⟨rfl, rfl⟩⟩ := hx.sl_shape
        · have hrun : (Instr.sliceAt t (.slice a xs.length c) vl vh none).run P w = .ok (.slice (if c = l then a else a.map (·.add (l * ti.size))) (h - l) (c - l)) w := by
            have hb := vu (P := P) (w := w) (isS := true) hlo' hhi' h1 (wdo h2 hcap)
            simp [Instr.sliceAt, Instr.slice, run_underlying ht, hb, sizeOf, typeInfo, hti]
          refine ⟨_, hrun, ?_⟩
          by_cases hlh : l = h
          · subst hlh
            have : (xs.take l).drop l = [] := by simp
            rw [this, Nat.sub_self]
            exact .nil _ _ _
          · have hpos : xs ≠ [] := by intro e; subst e; simp at h2; omega
            have hcl : ¬ (c = l) := by omega
            rw [if_neg hcl]
            cases hx with
            | nil => exact absurd rfl hpos
            | sl _ _ b o _ g hu hlen hz hb' h3 h4 =>
              simp only [wcd, yf]
              exact wbs (.sl _ xs b o c g hu hlen hz hb' h3 h4) l h (c - l) h1 h2 (by omega) hpos
        · simp only [wdj, Nat.le_zero] at h2
          subst h2
          have h1' : l = 0 := by omega
          subst h1'
          have hb := vu (P := P) (w := w) (isS := true) (len := 0) (cap := c) hlo' (by simpa using hhi') (wb7 0) (wdq c)
          refine ⟨.slice (if c = 0 then a else a.map (·.add (0 * ti.size))) (0 - 0) (c - 0), by simp [Instr.sliceAt, Instr.slice, run_underlying ht, hb, sizeOf, typeInfo, hti], ?_⟩
          simp only [List.take_nil, List.drop_nil, Nat.sub_self]
          exact .nil _ _ _
      · cases hq
    · cases hq
  · rename_i s
    split at hq
    · rename_i l h hl hh
      split at hq
      · rename_i hc
        cases hq
        obtain ⟨hk, h1, h2⟩ := hc
        cases hx
        have hlo' := zb2 hlo hsl hl
        have hhi' := zb2 hhi hsh hh
        unfold Yc at hk
        split at hk
        · rename_i hu
          have hb := vu (P := P) (w := w) (isS := false) hlo' hhi' h1 h2
          exact ⟨_, by simp [Instr.sliceAt, Instr.slice, run_underlying hu, hb], .u _⟩
        · cases hk
      · cases hq
    · cases hq
  · cases hq
end
section
variable {P : Program} {W : Env} {n : Nat} {H : PHeap} {F : PFrame}
def setMany {α : Type} (cs : List α) (off : Nat) (ps : List α) : List α := cs.take off ++ ps ++ cs.drop (off + ps.length)
theorem Jh {α : Type} (cs ps : List α) (off : Nat) (h : off + ps.length ≤ cs.length) (i : Nat) : (setMany cs off ps)[i]? = if off ≤ i ∧ i < off + ps.length then ps[i - off]? else cs[i]? := by
  unfold setMany
  have hl : (cs.take off).length = off := by simp; omega
  by_cases h1 : i < off
  · rw [if_neg (by omega), wcq, wcc (by omega), wc6, if_pos h1]
  · by_cases h2 : i < off + ps.length
    · rw [if_pos ⟨by omega, h2⟩, wcq, wce (by omega), hl, wcc (by omega)]
    · rw [if_neg (by omega), wce (by simp; omega), wcv]
      congr 1
      simp
      omega
theorem yq {α : Type} (cs ps : List α) (off : Nat) (h : off + ps.length ≤ cs.length) : (setMany cs off ps).length = cs.length := by
  unfold setMany; simp; omega
theorem zta (off : Nat) : ∀ (l : List Value) (k : Nat) (cells : Array Value), off + k + l.length ≤ cells.size →
    ((l.zipIdx k).foldl (fun cs (x : Value × Nat) => cs.setIfInBounds (off + x.2) x.1) cells).toList = setMany cells.toList (off + k) l
  | [], k, cells, h => by simp [setMany]
  | v :: l, k, cells, h => by
    simp only [List.zipIdx_cons, List.foldl_cons]
    rw [zta off l (k + 1) _ (by simp at h ⊢; omega)]
    simp only [wc1] at h
    apply wdt
    intro i
    rw [Jh _ _ _ (by simp; omega), Jh _ _ _ (by simp; omega)]
    simp only [wc1, Array.toList_setIfInBounds]
    by_cases h1 : i = off + k
    · subst h1
      rw [if_neg (by omega), if_pos (by omega), wee, if_pos rfl, if_pos (by simp; omega), Nat.sub_self]
      simp
    · by_cases h2 : off + (k + 1) ≤ i ∧ i < off + (k + 1) + l.length
      · rw [if_pos h2, if_pos (by omega), show i - (off + k) = (i - (off + (k + 1))) + 1 by omega, wdy]
      · rw [if_neg h2, if_neg (by omega), wee, if_neg (by omega)]
def zb4 (H : PHeap) (places : List (Nat × Nat)) : List PV → List (Nat × PV) → Option (List PV)
  | cs, [] => some cs
  | cs, (i, p) :: rest =>
    match places[i]? with
    | none => none
    | some (off, size) => if p.cells.length = size ∧ off + size ≤ cs.length ∧ okC H p = true then zb4 H places (setMany cs off p.cells) rest else none
theorem RpL.setMany {V : Nm → Value} {w : World} {cs ps : List PV} {vs us : List Value} (h : RpL W.Z H V w cs vs) (h2 : RpL W.Z H V w ps us) {off : Nat} (hl : off + ps.length ≤ cs.length) : RpL W.Z H V w (setMany cs off ps) (setMany vs off us) := by
  have e1 := h.1
  have e2 := h2.1
  refine ⟨by rw [yq _ _ _ hl, yq _ _ _ (by omega), e1], fun i p v h3 h4 => ?_⟩
  rw [Jh _ _ _ hl] at h3
  rw [Jh _ _ _ (by omega), ← e2] at h4
  split at h3
  · rename_i hc; rw [if_pos hc] at h4; exact h2.2 _ p v h3 h4
  · rename_i hc; rw [if_neg hc] at h4; exact h.2 _ p v h3 h4
theorem Yb {α : Type} {cs ps : List α} {off : Nat} {x : α} (h : x ∈ setMany cs off ps) : x ∈ cs ∨ x ∈ ps := by
  unfold setMany at h
  simp only [wcr] at h
  rcases h with (h | h) | h
  · exact .inl (wdx h)
  · exact .inr h
  · exact .inl (weg h)
def RpParts (Z : ZM) (H : PHeap) (V : Nm → Value) (w : World) (ps : List (Nat × PV)) (vs : List (Nat × Value)) : Prop := ps.length = vs.length ∧ ∀ (i : Nat) (p : Nat × PV) (v : Nat × Value), ps[i]? = some p → vs[i]? = some v → p.1 = v.1 ∧ Rp Z H V w p.2 v.2
theorem zbt {V : Nm → Value} {w : World} (hr : HRel P W H V w) {place : Nat → Option (Nat × Nat)} {places : List (Nat × Nat)} (hp : ∀ (i : Nat) (x : Nat × Nat), places[i]? = some x → place i = some x) : ∀ (ps : List (Nat × PV)) (vs : List (Nat × Value)) (cs : List PV) (arr : Array Value) (q : List PV),
    RpParts W.Z H V w ps vs → RpL W.Z H V w cs arr.toList → (∀ v ∈ arr.toList, v.oneCell' = true) → zb4 H places cs ps = some q → ∃ r, Instr.fill place arr vs = some r ∧ RpL W.Z H V w q r.toList ∧ ∀ v ∈ r.toList, v.oneCell' = true
  | [], [], cs, arr, q, _, hc, h1, hq => by simp only [zb4, wco] at hq; subst hq; exact ⟨arr, rfl, hc, h1⟩
  | [], _ :: _, _, _, _, h, _, _, _ => by have := h.1; simp at this
  | _ :: _, [], _, _, _, h, _, _, _ => by have := h.1; simp at this
  | (i, p) :: ps, (j, v) :: vs, cs, arr, q, h, hc, h1, hq => by
    obtain ⟨e, hpv⟩ := h.2 0 _ _ rfl rfl
    simp only at e hpv
    subst e
    simp only [zb4] at hq
    split at hq
    · cases hq
    · rename_i off size hpl
      split at hq
      · rename_i hcond
        obtain ⟨hk, hoff, hok⟩ := hcond
        obtain ⟨hcells, hone⟩ := hpv.cells hr hok
        have hvs : v.cells.size = size := by rw [← hk]; have := hcells.1; simpa using this.symm
        have hasz : arr.size = cs.length := by have := hc.1; simpa using this.symm
        have hfold : (v.cells.zipIdx.foldl (fun cs (x : Value × Nat) => cs.setIfInBounds (off + x.2) x.1) arr).toList = setMany arr.toList off v.cells.toList := by
          have := zta off v.cells.toList 0 arr (by simp; omega)
          rw [wdb] at this
          rw [← this, ← Array.foldl_toList, Array.toList_zipIdx]
        obtain ⟨r, hr1, hr2, hr3⟩ := zbt hr hp ps vs _ (v.cells.zipIdx.foldl (fun cs (x : Value × Nat) => cs.setIfInBounds (off + x.2) x.1) arr) q ⟨by have := h.1; simpa using this, fun k a b ha hb => h.2 (k + 1) a b (by simpa using ha) (by simpa using hb)⟩
          (by rw [hfold]; exact hc.setMany hcells (by omega)) (by rw [hfold]; intro u hu; rcases Yb hu with hu | hu; exact h1 u hu; exact hone u hu) hq
        refine ⟨r, ?_, hr2, hr3⟩
        simp only [Instr.fill, hp i _ hpl]
        rw [if_neg (by simp [hvs]; omega)]
        exact hr1
      · cases hq
def zz3 (P : Program) (t : TypeId) : Option (List PV × List (Nat × Nat)) :=
  match (P.info? t).bind (·.zero) with
  | none => none
  | some z =>
    match P.underlying t with
    | some (.struct fs) => (fs.toList.mapM fun f => (P.info? f.type).map fun i => (f.offset, i.size)).map fun l => (z.cells.toList.map .u, l)
    | some (.array m e) => (P.info? e).map fun i => (z.cells.toList.map .u, (range m).map fun j => (j * i.size, i.size))
    | _ => none
theorem zrt {α β : Type} (f : α → Sem β) : ∀ l : List α, (l.mapM f).val P = l.mapM fun a => (f a).val P
  | [] => by simp [qj]
  | a :: l => by
    simp only [wds, qh, qj, zrt f l]
    rfl
theorem RpL.us {V : Nm → Value} {w : World} (vs : List Value) : RpL W.Z H V w (vs.map .u) vs := ⟨by simp, fun i p v h1 h2 => by
  rw [wb9, h2] at h1
  cases h1
  exact .u _⟩
def zrf (P : Program) (H : PHeap) (t : TypeId) (parts : List (Nat × PV)) : Option PV :=
  match zz3 P t with
  | none => none
  | some (zs, places) => if zs.all (yj H) then (zb4 H places zs parts).map .agg else none
theorem zu9 {V : Nm → Value} {w : World} (hr : HRel P W H V w) {t : TypeId} {ps : List (Nat × PV)} {vs : Array (Nat × Value)} {q : PV} (hp : RpParts W.Z H V w ps vs.toList) (hq : zrf P H t ps = some q) : ∃ r, (Instr.build t vs).run P w = .ok r w ∧ Rp W.Z H V w q r := by
  unfold zrf at hq
  cases hb : zz3 P t with
  | none => rw [hb] at hq; cases hq
  | some zp =>
    obtain ⟨zs, places⟩ := zp
    rw [hb] at hq
    simp only at hq
    split at hq
    rotate_left
    · cases hq
    rename_i hall
    cases hf : zb4 H places zs ps with
    | none => rw [hf] at hq; cases hq
    | some cs =>
      rw [hf] at hq
      cases hq
      unfold zz3 at hb
      cases hz : (P.info? t).bind (·.zero) with
      | none => rw [hz] at hb; cases hb
      | some z =>
        rw [hz] at hb
        simp only at hb
        obtain ⟨ti, hti, htz⟩ := wda.1 hz
        have hzero : (zeroValue t).run P w = .ok z w := by simp [zeroValue, typeInfo, hti, htz]
        have hone : ∀ cs' : List Value, zs = cs'.map .u → ∀ v ∈ cs', v.oneCell' = true := fun cs' e v hv => by
          rw [wcz] at hall
          exact hall (.u v) (by rw [e]; exact List.mem_map_of_mem hv)
        split at hb
        · rename_i fs hu
          obtain ⟨l, hl, he⟩ := wca.1 hb
          cases he
          have hpl : (fs.mapM fun f => (do pure (f.offset, ← sizeOf f.type) : Sem (Nat × Nat))).run P w = .ok places.toArray w := by
            refine Y3 ?_ w
            rw [Array.mapM_eq_mapM_toList]
            show (List.toArray <$> _ : Sem _).val P = _
            rw [← bind_pure_comp, qh, zrt]
            have : (fun f : Field => (do pure (f.offset, ← sizeOf f.type) : Sem (Nat × Nat)).val P) = fun f => (P.info? f.type).map fun i => (f.offset, i.size) := by
              funext f
              cases hi : P.info? f.type with
              | none => simp [sizeOf, typeInfo, program, qh, zkl, Sem.val, hi, stuck]
              | some i => simp [sizeOf, typeInfo, program, qh, zkl, qj, Sem.val, hi]
            rw [this, hl]
            rfl
          obtain ⟨r, hr1, hr2, _⟩ := zbt hr (place := (places.toArray[·]?)) (places := places) (fun i x hx => by simpa using hx) ps vs.toList _ z.cells cs hp (RpL.us _) (hone _ rfl) hf
          refine ⟨.agg r, ?_, .agg _ _ (by simpa using hr2.1) fun i p v h1 h2 => hr2.2 i p v h1 (by simpa using h2)⟩
          unfold Instr.build
          simp only [Sem.run_bind, hzero, Result.andThen_ok, run_underlying hu, hpl, hr1, Sem.run_pure]
        · rename_i m e hu
          obtain ⟨i, hi, he⟩ := wca.1 hb
          cases he
          obtain ⟨r, hr1, hr2, _⟩ := zbt hr (place := fun j => some (j * i.size, i.size)) (places := (range m).map fun j => (j * i.size, i.size)) (fun j x hx => by
            rw [wb9] at hx
            cases hj : (range m)[j]? with
            | none => rw [hj] at hx; cases hx
            | some j' =>
              rw [hj] at hx
              have : j' = j := by
                have := wb3.1 hj
                obtain ⟨h1, h2⟩ := this
                simpa using h2.symm
              subst this
              simpa using hx) ps vs.toList _ z.cells cs hp (RpL.us _) (hone _ rfl) hf
          refine ⟨.agg r, ?_, .agg _ _ (by simpa using hr2.1) fun i p v h1 h2 => hr2.2 i p v h1 (by simpa using h2)⟩
          unfold Instr.build
          simp [Sem.run_bind, hzero, run_underlying hu, sizeOf, typeInfo, hi, hr1]
        · cases hb
end
section
variable {P : Program} {W : Env} {n : Nat} {H : PHeap} {F : PFrame}
def z3f (H : PHeap) : PV → Option PV
  | .pp id off ver => (jx H id ver).map fun _ => .pp id off ver
  | .rp cs => some (.rp cs)
  | .fn (.func g) a b => some (.fn (.func g) a b)
  | _ => none
def z03 (P : Program) (H : PHeap) (F : PFrame) (ty : TypeId) (c : Call) : Option PV :=
  match c.callee with
  | .builtin .len =>
    match c.args.toList, c.argTypes.toList with
    | [x], [t] => lenP P H t (evP F x)
    | _, _ => none
  | .builtin b => zqe P b c.argTypes ty (c.args.toList.map (evP F))
  | _ => none
def zwa (P : Program) (t : TypeId) : Bool := match P.underlying t with | some (.pointer _) => true | _ => false
def zl7 (H : PHeap) : PV → Option Bool
  | .sl _ (_ :: _) => some false
  | .u (.slice a _ _) => some a.isNone
  | .ps id ver => match yh H id ver with
    | some (_, _, n, _) => if 0 < n then some false else none
    | none => none
  | _ => none
def zgy (H : PHeap) : PV → Option Bool
  | .rp _ => some false
  | .u (.pointer a) => some a.isNone
  | .pp id _ ver => (jx H id ver).map fun _ => false
  | _ => none
theorem zss {V : Nm → Value} {w : World} (hr : HRel P W H V w) {p : PV} {b : Bool} {v : Value} (h : zl7 H p = some b) (hp : Rp W.Z H V w p v) : ∃ a m c, v = .slice a m c ∧ a.isNone = b := by
  unfold zl7 at h
  split at h
  · cases h; cases hp; exact ⟨_, _, _, rfl, rfl⟩
  · cases h; cases hp; exact ⟨_, _, _, rfl, rfl⟩
  · split at h
    · rename_i t k m cs hl
      split at h
      · rename_i hm
        cases h
        obtain ⟨hb, hve⟩ := yc hl
        cases hp with
        | ps _ _ _ hvv hh =>
          rw [hh (by rw [hb]; rfl) hve]
          obtain ⟨vals, ho, _⟩ := hr.row _ t k m cs hb
          rcases ho.2 with ⟨e, rfl⟩ | ⟨g, cap, cur, e, _⟩
          · omega
          · exact ⟨_, _, _, e, rfl⟩
      · cases h
    · cases h
  · cases h
theorem zsh {V : Nm → Value} {w : World} (hr : HRel P W H V w) {p : PV} {b : Bool} {v : Value} (h : zgy H p = some b) (hp : Rp W.Z H V w p v) : ∃ a, v = .pointer a ∧ a.isNone = b := by
  unfold zgy at h
  split at h
  · cases h; cases hp; exact ⟨_, rfl, rfl⟩
  · cases h; cases hp; exact ⟨_, rfl, rfl⟩
  · obtain ⟨cs, hl, rfl⟩ := wca.1 h
    obtain ⟨a1, a2⟩ := yg hl
    cases hp with
    | pp _ _ _ _ hv hh =>
      obtain ⟨g, _, rfl⟩ := hh a1 a2
      exact ⟨_, rfl, rfl⟩
  · cases h
def zl2 (op : BinOp) (o : Option Bool) : Option PV := match o, op with
  | some b, .eql => some (.u (.bool b))
  | some b, .neq => some (.u (.bool (!b)))
  | _, _ => none
def zxa (P : Program) (H : PHeap) (F : PFrame) (op : BinOp) (t : TypeId) (x y : Operand) : Option PV :=
  match y with
  | .const (.slice none 0 0) => if Qx P t then zl2 op (zl7 H (evP F x)) else none
  | .const (.pointer none) => if zwa P t then zl2 op (zgy H (evP F x)) else none
  | y => ya P op t x y (evP F x) (evP F y)
def zj (P : Program) (H : PHeap) (F : PFrame) (o : Oper) : Option PV :=
  match o.op with
  | .move x | .assign x => some (evP F x)
  | .pick c a b => match evP F c with
    | .u (.bool t) => some (if t then evP F a else evP F b)
    | _ => none
  | .binOp op t x y _ => zxa P H F op t x y
  | .unOp op _ x => unP P op (evP F x)
  | .convert s d x => zwi P s d (evP F x)
  | .load t x => Qq P H t (evP F x)
  | .fieldAddr s x f => fieldAddrP P H s f (evP F x)
  | .indexAddr t x i => indexAddrP P H t (evP F x) (evP F i)
  | .index t x i => ze0 P t (evP F x) (evP F i)
  | .field t x f => zpn P t f (evP F x)
  | .slice t x lo hi none => zg2 P t (evP F x) (lo.map (evP F)) (hi.map (evP F))
  | .extract x i => match evP F x with
    | .tup cs => cs[i]?
    | _ => none
  | .build t parts => zrf P H t (parts.toList.map fun x => (x.1, evP F x.2))
  | .makeFunc f a b => some (.fn f (a.toList.map (evP F)) (b.toList.map (evP F)))
  | .nilCheck x => z3f H (evP F x)
  | .call c => z03 P H F o.type c
  | _ => none
theorem zoc {V : Nm → Value} {w : World} : ∀ {ps : List PV} {vs us : List Value}, ps.mapM PV.val2 = some us → RpL W.Z H V w ps vs → vs = us
  | [], vs, us, h, hr => by
    have := hr.1
    simp at h this
    subst h
    exact wcm this.symm
  | p :: ps, [], us, h, hr => by have := hr.1; simp at this
  | p :: ps, v :: vs, us, h, hr => by
    simp only [wds, bind_pure_comp, Option.bind_eq_bind] at h
    cases hc : p.val2 with
    | none => rw [hc] at h; cases h
    | some u =>
      cases hm : ps.mapM PV.val2 with
      | none => rw [hc, hm] at h; cases h
      | some m =>
        rw [hc, hm] at h
        simp at h
        subst h
        have e1 : vs = m := zoc hm ⟨by have := hr.1; simpa using this, fun i a b ha hb => hr.2 (i + 1) a b (by simpa using ha) (by simpa using hb)⟩
        rw [(hr.2 0 p v rfl rfl).val2 hc, e1]
theorem RpL.eval {V : Nm → Value} {w : World} {a : Act} : ∀ (xs : List Operand), (∀ x ∈ xs, Rp W.Z H V w (evP F x) (a.eval x)) → RpL W.Z H V w (xs.map (evP F)) (xs.map a.eval) := fun xs h => ⟨by simp, fun i p v h1 h2 => by
  rw [wb9] at h1 h2
  cases hx : xs[i]? with
  | none => rw [hx] at h1; cases h1
  | some x =>
    rw [hx] at h1 h2
    cases h1
    cases h2
    exact h x (wb8 hx)⟩
theorem zrw {o : Oper} {c : Call} {p : PV} (ho : o.op = .call c) (h : z03 P H F o.type c = some p) : PQ P W o F H p := by
  refine wab fun V a w hr hx => ?_
  rw [ho] at hx
  obtain ⟨callee, args, argTypes⟩ := c
  unfold z03 at h
  cases callee with
  | value f => simp at h
  | invoke r m => simp at h
  | builtin b =>
    have hargs : ∀ x ∈ args.toList, Rp W.Z H V w (evP F x) (a.eval x) := fun x hx' => hx x (by simp [Op.operands, Call.operands]; simpa using hx')
    have hex : (execOp a.eval o) = builtin b argTypes o.type (args.map fun | .const _ => true | _ => false) (args.map a.eval) := by
      unfold execOp
      simp only [ho]
      unfold resolve
      simp only [pure_bind]
      rfl
    by_cases hlen : b = .len
    · subst hlen
      simp only at h
      split at h
      · rename_i x t h1 h2
        have e1 : args = #[x] := by apply Array.ext'; simpa using h1
        have e2 : argTypes = #[t] := by apply Array.ext'; simpa using h2
        subst e1 e2
        obtain ⟨u, hu, hp⟩ := z0h (ty := o.type) hr (hargs x (by simp)) h
        exact ⟨u, by rw [hex]; simp [builtin, hu], hp⟩
      · cases h
    · have h' : zqe P b argTypes o.type (args.toList.map (evP F)) = some p := by
        cases b <;> first | exact h | exact absurd rfl hlen
      unfold zqe at h'
      cases hm : (args.toList.map (evP F)).mapM PV.val2 with
      | none => rw [hm] at h'; cases h'
      | some us =>
        rw [hm] at h'
        simp only at h'
        have hus := zoc hm (RpL.eval (F := F) (a := a) args.toList hargs)
        have harr : args.map a.eval = us.toArray := by apply Array.ext'; simpa using hus
        split at h'
        · obtain ⟨v, hv, rfl⟩ := wca.1 h'
          exact ⟨v, by rw [hex]; simp [builtin, harr, Y3 hv w], Rp.ofV _ _ _ _ _⟩
        · obtain ⟨v, hv, rfl⟩ := wca.1 h'
          exact ⟨v, by rw [hex]; simp [builtin, harr, Y3 hv w], Rp.ofV _ _ _ _ _⟩
        · cases h'
theorem qe {o : Oper} {p : PV} (h : zj P H F o = some p) : PQ P W o F H p := by
  obtain ⟨dst, op, type, pos, after, guard⟩ := o
  cases op <;> simp only [zj] at h
  case move x =>
    cases h
    exact wab fun V a w hr hx => ⟨_, rfl, hx x (by simp [Op.operands])⟩
  case assign x =>
    cases h
    exact wab fun V a w hr hx => ⟨_, rfl, hx x (by simp [Op.operands])⟩
  case pick c a b =>
    split at h
    · rename_i t ht
      cases h
      refine wab fun V ac w hr hx => ?_
      have hc := hx c (by simp [Op.operands])
      rw [ht] at hc
      have hcv : ac.eval c = .bool t := by generalize ac.eval c = q at hc; cases hc; rfl
      refine ⟨if t then ac.eval a else ac.eval b, by simp [execOp, hcv, asBool], ?_⟩
      cases t
      · exact hx b (by simp [Op.operands])
      · exact hx a (by simp [Op.operands])
    · cases h
  case binOp op t x y yt =>
    unfold zxa at h
    split at h
    · split at h
      · rename_i ht
        unfold zl2 at h
        unfold Qx at ht
        split at ht
        · rename_i e hu
          have key : ∀ (b : Bool), zl7 H (evP F x) = some b → ∀ (V : Nm → Value) (ac : Act) (w : World), HRel P W H V w → Rp W.Z H V w (evP F x) (ac.eval x) → (Op.equal t (ac.eval x) (.slice none 0 0)).run P w = .ok b w ∧ ∃ a m c, ac.eval x = .slice a m c := by
            intro b hb V ac w hr hx
            obtain ⟨a, m, c, e1, e2⟩ := zss hr hb hx
            rw [e1]
            refine ⟨?_, a, m, c, rfl⟩
            subst e2
            have hE : ∀ d, (Op.equalIn (d + 1) t (.slice a m c) (.slice none 0 0)).run P w = .ok a.isNone w := fun d => by
              cases a <;> simp [Op.equalIn, run_underlying hu]
            exact hE 9999
          split at h
          · rename_i b hb
            cases h
            refine wab fun V ac w hr hx => ?_
            obtain ⟨h1, a, m, c, h2⟩ := key b hb V ac w hr (hx x (by simp [Op.operands]))
            rw [h2] at h1
            have hy : ∀ u, ac.eval (.const u) = u := fun _ => rfl
            exact ⟨.bool b, by simp [execOp, h2, hy, eqGuard, binOp, h1], .u _⟩
          · rename_i b hb
            cases h
            refine wab fun V ac w hr hx => ?_
            obtain ⟨h1, a, m, c, h2⟩ := key b hb V ac w hr (hx x (by simp [Op.operands]))
            rw [h2] at h1
            have hy : ∀ u, ac.eval (.const u) = u := fun _ => rfl
            exact ⟨.bool (!b), by simp [execOp, h2, hy, eqGuard, binOp, h1], .u _⟩
          · cases h
        · cases ht
      · cases h
    · split at h
      · rename_i ht
        unfold zl2 at h
        unfold zwa at ht
        split at ht
        · rename_i e hu
          have key : ∀ (b : Bool), zgy H (evP F x) = some b → ∀ (V : Nm → Value) (ac : Act) (w : World), HRel P W H V w → Rp W.Z H V w (evP F x) (ac.eval x) → (Op.equal t (ac.eval x) (.pointer none)).run P w = .ok b w ∧ ∃ a, ac.eval x = .pointer a := by
            intro b hb V ac w hr hx
            obtain ⟨a, e1, e2⟩ := zsh hr hb hx
            rw [e1]
            refine ⟨?_, a, rfl⟩
            subst e2
            have hE : ∀ d, (Op.equalIn (d + 1) t (.pointer a) (.pointer none)).run P w = .ok a.isNone w := fun d => by
              cases a <;> simp [Op.equalIn, run_underlying hu]
            exact hE 9999
          split at h
          · rename_i b hb
            cases h
            refine wab fun V ac w hr hx => ?_
            obtain ⟨h1, a, h2⟩ := key b hb V ac w hr (hx x (by simp [Op.operands]))
            rw [h2] at h1
            have hy : ∀ u, ac.eval (.const u) = u := fun _ => rfl
            exact ⟨.bool b, by simp [execOp, h2, hy, eqGuard, binOp, h1], .u _⟩
          · rename_i b hb
            cases h
            refine wab fun V ac w hr hx => ?_
            obtain ⟨h1, a, h2⟩ := key b hb V ac w hr (hx x (by simp [Op.operands]))
            rw [h2] at h1
            have hy : ∀ u, ac.eval (.const u) = u := fun _ => rfl
            exact ⟨.bool (!b), by simp [execOp, h2, hy, eqGuard, binOp, h1], .u _⟩
          · cases h
        · cases ht
      · cases h
    unfold ya at h
    split at h
    · rename_i a b ha hb
      obtain ⟨v, hv, rfl⟩ := wca.1 h
      refine wab fun V ac w hr hx => ⟨v, ?_, Rp.ofV _ _ _ _ _⟩
      have h1 := (hx x (by simp [Op.operands])).val2 ha
      have h2 := (hx y (by simp [Op.operands])).val2 hb
      have h3 := Y3 hv w
      simp only [execOp, h1, h2]
      rw [Sem.run_bind, h3]
      rfl
    · cases h
  case unOp op t x =>
    unfold unP at h
    split at h
    · rename_i a ha
      obtain ⟨v, hv, rfl⟩ := wca.1 h
      refine wab fun V ac w hr hx => ⟨v, ?_, Rp.ofV _ _ _ _ _⟩
      have h1 := (hx x (by simp [Op.operands])).val2 ha
      simp only [execOp, h1]
      rw [Sem.run_bind, Y3 hv w]
      rfl
    · cases h
  case convert s d x =>
    unfold zwi at h
    split at h
    · rename_i a ha
      obtain ⟨v, hv, rfl⟩ := wca.1 h
      refine wab fun V ac w hr hx => ⟨v, ?_, Rp.ofV _ _ _ _ _⟩
      have h1 := (hx x (by simp [Op.operands])).val2 ha
      simp only [execOp, h1]
      rw [Sem.run_bind, Y3 hv w]
      rfl
    · cases h
  case load t x =>
    refine wab fun V ac w hr hx => ?_
    obtain ⟨u, hu, hp⟩ := zit hr (hx x (by simp [Op.operands])) h
    exact ⟨u, by simp [execOp, hu], hp⟩
  case fieldAddr s x f =>
    refine wab fun V ac w hr hx => ?_
    obtain ⟨u, hu, hp⟩ := zm2 (hx x (by simp [Op.operands])) h
    exact ⟨u, by simp [execOp, hu], hp⟩
  case indexAddr t x i =>
    refine wab fun V ac w hr hx => ?_
    obtain ⟨u, hu, hp⟩ := zm9 hr (hx x (by simp [Op.operands])) (hx i (by simp [Op.operands])) h
    exact ⟨u, by simp [execOp, hu], hp⟩
  case index t x i =>
    refine wab fun V ac w hr hx => ?_
    obtain ⟨u, hu, hp⟩ := zuu (hx x (by simp [Op.operands])) (hx i (by simp [Op.operands])) h
    exact ⟨u, by simp [execOp, hu], hp⟩
  case field t x f =>
    refine wab fun V ac w hr hx => ?_
    obtain ⟨u, hu, hp⟩ := zup (hx x (by simp [Op.operands])) h
    exact ⟨u, by simp [execOp, hu], hp⟩
  case slice t x lo hi mx =>
    cases mx with
    | some m => simp at h
    | none =>
      refine wab fun V ac w hr hx => ?_
      obtain ⟨u, hu, hp⟩ := zuj (vl := lo.map ac.eval) (vh := hi.map ac.eval) (hx x (by simp [Op.operands])) (fun p v h1 h2 => by
        cases lo with
        | none => cases h1
        | some l => cases h1; cases h2; exact hx l (by simp [Op.operands])) (by simp) (fun p v h1 h2 => by
        cases hi with
        | none => cases h1
        | some l => cases h1; cases h2; exact hx l (by simp [Op.operands])) (by simp) h
      exact ⟨u, by simp [execOp, hu], hp⟩
  case extract x i =>
    split at h
    · rename_i cs hcs
      refine wab fun V ac w hr hx => ?_
      have h1 := hx x (by simp [Op.operands])
      rw [hcs] at h1
      generalize hq : ac.eval x = q at h1
      cases h1 with
      | tup _ vs hl hc =>
        have hlt := (wb3.1 h).1
        have hv := wcn (xs := vs) (show i < vs.size by omega)
        exact ⟨vs[i]'(by omega), by simp [execOp, hq, Instr.extract, hv], hc i p _ h hv⟩
    · cases h
  case build t parts =>
    refine wab fun V ac w hr hx => ?_
    obtain ⟨u, hu, hp⟩ := zu9 (vs := parts.map fun (x : Nat × Operand) => (x.1, ac.eval x.2)) hr ⟨by simp, fun i p v h1 h2 => by
      rw [wb9] at h1
      rw [Array.toList_map, wb9] at h2
      cases hi : parts.toList[i]? with
      | none => rw [hi] at h1; cases h1
      | some y =>
        rw [hi] at h1 h2
        cases h1
        cases h2
        refine ⟨rfl, hx y.2 ?_⟩
        simp only [Op.operands, List.mem_toArray, wcf]
        exact ⟨y, wb8 hi, rfl⟩⟩ h
    exact ⟨u, by simp [execOp, hu], hp⟩
  case makeFunc f a b =>
    cases h
    refine wab fun V ac w hr hx => ⟨.func f (a.map ac.eval) (b.map ac.eval), by simp [execOp, Instr.makeFunc], ?_⟩
    have h1 := RpL.eval (W := W) (H := H) (V := V) (w := w) (F := F) (a := ac) a.toList fun x hx' => hx x (by simp [Op.operands]; left; simpa using hx')
    have h2 := RpL.eval (W := W) (H := H) (V := V) (w := w) (F := F) (a := ac) b.toList fun x hx' => hx x (by simp [Op.operands]; right; simpa using hx')
    exact .fn f _ _ _ _ (by simp) (by simp) (fun i p v h3 h4 => h1.2 i p v h3 (by simpa using h4)) (fun i p v h3 h4 => h2.2 i p v h3 (by simpa using h4))
  case nilCheck x =>
    refine wab fun V ac w hr hx => ?_
    have h1 := hx x (by simp [Op.operands])
    generalize hq : evP F x = q at h h1
    unfold z3f at h
    split at h
    · rename_i id off ver
      cases hl : jx H id ver with
      | none => rw [hl] at h; cases h
      | some cs =>
        rw [hl] at h
        cases h
        obtain ⟨a1, a2⟩ := yg hl
        generalize hv : ac.eval x = v at h1
        cases h1 with
        | pp _ _ _ _ hv' hh =>
          obtain ⟨g, hg, rfl⟩ := hh a1 a2
          exact ⟨.pointer (some ⟨g, Jy (V id) + off, none⟩), by simp [execOp, hv], .pp _ _ _ _ hv' hh⟩
    · cases h
      generalize hv : ac.eval x = v at h1
      cases h1 with
      | rp _ b o g hz hb h1 h2 => exact ⟨.pointer (some ⟨b, o, none⟩), by simp [execOp, hv], .rp _ b o g hz hb h1 h2⟩
    · cases h
      generalize hv : ac.eval x = v at h1
      cases h1 with
      | fn _ _ _ va vb hla hlb ha hb => exact ⟨.func _ va vb, by simp [execOp, hv], .fn _ _ _ va vb hla hlb ha hb⟩
    · cases h
  case call c => exact zrw rfl h
  all_goals cases h
structure Turn (W : Env) (H : PHeap) (V : Nm → Value) (w : World) (d : Nm) (b' : zd4) (v0 : Value) (w' : World) : Prop where
  below : Below W.w.heap.size W.w w'
  size : w.heap.size ≤ w'.heap.size
  block : ∀ b, b < w.heap.size → ¬ ((H d).body.isSome = true ∧ jv (V d) = some b) → w'.heap[b]? = w.heap[b]?
  own : ∀ g, jv v0 = some g → w.heap.size ≤ g ∨ ((H d).body.isSome = true ∧ jv (V d) = some g)
  ver : (H d).ver < b'.ver ∨ (b'.ver = (H d).ver ∧ v0 = V d ∧ (H d).body.isSome = true)
def vg (V : Nm → Value) (d : Nm) (v : Value) : Nm → Value := fun i => if i = d then v else V i
section
variable {V : Nm → Value} {w w' : World} {d : Nm} {b' : zd4} {v0 : Value}
theorem Turn.rp (ht : Turn W H V w d b' v0 w') {p : PV} {v : Value} (h : Rp W.Z H V w p v) : Rp W.Z (H.set d b') (vg V d v0) w' p v := by
  refine h.mono (fun b hz hb => ⟨fun hz' => ?_, wd1 hb ht.size, ht.block b hb fun hd => hz (.inr ⟨d, hd.1, hd.2⟩)⟩) (wb7 _) (fun id => ?_) (fun id ver hv h1 h2 => ?_)
  · rcases hz' with hz' | ⟨id, h1, h2⟩
    · exact hz (.inl hz')
    · by_cases e : id = d
      · subst e
        simp only [vg, if_true] at h2
        rcases ht.own b h2 with h3 | h3
        · omega
        · exact hz (.inr ⟨_, h3.1, h3.2⟩)
      · simp only [vg, if_neg e] at h2
        simp only [PHeap.set, if_neg e] at h1
        exact hz (.inr ⟨id, h1, h2⟩)
  · by_cases e : id = d
    · subst e
      simp only [PHeap.set, if_true]
      rcases ht.ver with h | ⟨h, _⟩ <;> omega
    · simp [PHeap.set, e]
  · by_cases e : id = d
    · subst e
      simp only [PHeap.set, if_true] at h1 h2
      rcases ht.ver with h | ⟨h, h3, h4⟩
      · omega
      · exact ⟨h4, by omega, by simp [vg, h3]⟩
    · simp only [PHeap.set, if_neg e] at h1 h2
      exact ⟨h1, h2, by simp [vg, e]⟩
def BodyRel (W : Env) (H : PHeap) (V : Nm → Value) (w : World) (v : Value) : PBody → Prop
  | .row t k n cs => ∃ vals, w.ownsRow W.w.heap.size t k v n vals ∧ RpL W.Z H V w cs vals ∧ ∀ v ∈ vals, v.oneCell' = true
  | .box t cs => ∃ g arr, v = .pointer (some ⟨g, 0, none⟩) ∧ W.w.heap.size ≤ g ∧ w.heap[g]? = some (.cells arr t (0, 0)) ∧ RpL W.Z H V w cs arr.toList ∧ ∀ v ∈ arr.toList, v.oneCell' = true
  | .raw p cs φ => ∃ g o vs, v = z2g p g ∧ W.w.heap.size ≤ g ∧ w.heap[g]? = some o ∧ φ g o vs ∧ RpL W.Z H V w cs vs
  | .que t k n cs => ∃ vs, (PBody.que t k n cs).Is w W.w.heap.size v vs ∧ RpL W.Z H V w cs vs
theorem BodyRel.body {W : Env} {H : PHeap} {V : Nm → Value} {w : World} {v : Value} {bd : PBody} (h : BodyRel W H V w v bd) : ∃ vs, bd.Is w W.w.heap.size v vs ∧ RpL W.Z H V w bd.cs vs := by
  cases bd with
  | row t k n cs => obtain ⟨vs, h1, h2, h3⟩ := h; exact ⟨vs, ⟨h1, h3⟩, h2⟩
  | box t cs => obtain ⟨g, arr, h1, h2, h3, h4, h5⟩ := h; exact ⟨arr.toList, ⟨g, h1, h2, h3, h5⟩, h4⟩
  | raw p cs φ => obtain ⟨g, o, vs, h1, h2, h3, h4, h5⟩ := h; exact ⟨vs, ⟨g, o, h1, h2, h3, h4⟩, h5⟩
  | que t k n cs => exact h
theorem Turn.heap (ht : Turn W H V w d b' v0 w') (hr : HRel P W H V w) (hb : ∀ bd, b'.body = some bd → BodyRel W (H.set d b') (vg V d v0) w' v0 bd) : HRel P W (H.set d b') (vg V d v0) w' := by
  have keep : ∀ id g, id ≠ d → (H id).body.isSome = true → jv (V id) = some g → w'.heap[g]? = w.heap[g]? := fun id g e hs hg => by
    refine ht.block g (hr.own_lt hs hg).2 fun hd => e (hr.apart id d g hs hd.1 hg hd.2)
  refine ⟨ht.below, fun id bd hbd => ?_, fun i => ht.rp (hr.ghost i), fun id id' g h1 h2 h3 h4 => ?_, fun b hz => wd1 (hr.zlt b hz) ht.size, fun id g h1 h2 hz => ?_⟩
  · by_cases e : id = d
    · subst e
      simp only [PHeap.set, if_true] at hbd
      have := (hb _ hbd).body
      simp only [vg, if_true]
      exact this
    · simp only [PHeap.set, if_neg e] at hbd
      obtain ⟨vs, h1, h2⟩ := hr.body id bd hbd
      simp only [vg, if_neg e]
      exact ⟨vs, h1.keep fun b hv => keep id b e (by rw [hbd]; rfl) hv, h2.mono fun p v hp => ht.rp hp⟩
  · have own : ∀ g, jv v0 = some g → ∀ id, id ≠ d → (H id).body.isSome = true → jv (V id) = some g → False := fun g hg id e hs hg2 => by
      rcases ht.own g hg with h5 | h5
      · have := (hr.own_lt hs hg2).2; omega
      · exact e (hr.apart id d g hs h5.1 hg2 h5.2)
    by_cases e : id = d
    · by_cases e' : id' = d
      · rw [e, e']
      · subst e
        simp only [vg, if_true] at h3
        simp only [vg, if_neg e'] at h4
        simp only [PHeap.set, if_neg e'] at h2
        exact (own g h3 id' e' h2 h4).elim
    · by_cases e' : id' = d
      · subst e'
        simp only [vg, if_true] at h4
        simp only [vg, if_neg e] at h3
        simp only [PHeap.set, if_neg e] at h1
        exact (own g h4 id e h1 h3).elim
      · simp only [vg, if_neg e] at h3
        simp only [vg, if_neg e'] at h4
        simp only [PHeap.set, if_neg e] at h1
        simp only [PHeap.set, if_neg e'] at h2
        exact hr.apart id id' g h1 h2 h3 h4
  · by_cases e : id = d
    · subst e
      simp only [vg, if_true] at h2
      rcases ht.own g h2 with h3 | h3
      · have := hr.zlt g hz; omega
      · exact hr.nz _ g h3.1 h3.2 hz
    · simp only [vg, if_neg e] at h2
      simp only [PHeap.set, if_neg e] at h1
      exact hr.nz id g h1 h2 hz
end
end
def V0 : Nm → Value := fun _ => undef
inductive NoP : PV → Prop
  | u (v : Value) : NoP (.u v)
  | agg (cs : List PV) (h : ∀ c ∈ cs, NoP c) : NoP (.agg cs)
  | tup (cs : List PV) (h : ∀ c ∈ cs, NoP c) : NoP (.tup cs)
  | sl (k : Nat) (xs : List PV) (h : ∀ c ∈ xs, NoP c) : NoP (.sl k xs)
  | fr (t : TypeId) (k : Nat) (xs : List PV) (h : ∀ c ∈ xs, NoP c) : NoP (.fr t k xs)
  | rp (cs : List PV) (h : ∀ c ∈ cs, NoP c) : NoP (.rp cs)
  | fn (f : Fn) (a b : List PV) (ha : ∀ c ∈ a, NoP c) (hb : ∀ c ∈ b, NoP c) : NoP (.fn f a b)
theorem NoP.cell {p c : PV} (h : NoP p) (hc : c ∈ p.cells) : NoP c := by
  cases h with
  | agg cs h => exact h c hc
  | u v => simp [PV.cells] at hc; subst hc; exact .u v
  | tup cs h => simp [PV.cells] at hc; subst hc; exact .tup cs h
  | sl k xs h => simp [PV.cells] at hc; subst hc; exact .sl k xs h
  | fr t k xs h => simp [PV.cells] at hc; subst hc; exact .fr t k xs h
  | rp cs h => simp [PV.cells] at hc; subst hc; exact .rp cs h
  | fn f a b ha hb => simp [PV.cells] at hc; subst hc; exact .fn f a b ha hb
theorem Rp.noP {Z Z' : ZM} {H H' : PHeap} {V V' : Nm → Value} {w : World} {p : PV} {v : Value} (h : Rp Z H V w p v) (hp : NoP p) (hz : ∀ b, b < w.heap.size → ¬ PZ Z H V b → ¬ PZ Z' H' V' b) (hm : Z'.m ≤ Z.m := by exact wb7 _) : Rp Z' H' V' w p v := by
  induction h with
  | u v => exact .u v
  | unk v => cases hp
  | agg cs vs hl h ih =>
    cases hp with
    | agg _ hc => exact .agg cs vs hl fun i p v h1 h2 => ih i p v h1 h2 (hc p (wb8 h1))
  | tup cs vs hl h ih =>
    cases hp with
    | tup _ hc => exact .tup cs vs hl fun i p v h1 h2 => ih i p v h1 h2 (hc p (wb8 h1))
  | nil k a c => exact .nil k a c
  | sl k xs b o c g hu hlen hzz hb h1 h2 ih =>
    cases hp with
    | sl _ _ hc => exact .sl k xs b o c g hu hlen (hz b hb hzz) hb h1 fun i p hi => ih i p hi (by
        obtain ⟨y, hy, hpy⟩ := wcu.1 (wb8 hi)
        exact (hc y hy).cell hpy)
  | fr t k xs v vals hu ho hzz h1 h2 ih =>
    cases hp with
    | fr _ _ _ hc => exact .fr t k xs v vals hu (yy ho hm fun _ _ _ => rfl) (fun b hb => hz b (Jg ho hb).2 (hzz b hb)) h1 fun i p u hi hj => ih i p u hi hj (by
        obtain ⟨y, hy, hpy⟩ := wcu.1 (wb8 hi)
        exact (hc y hy).cell hpy)
  | rp cs b o g hzz hb h1 h2 ih =>
    cases hp with
    | rp _ hc => exact .rp cs b o g (hz b hb hzz) hb h1 fun i p hi => ih i p hi (hc p (wb8 hi))
  | ps id ver v hv h => cases hp
  | qs id off k ver v hv h => cases hp
  | pp id off ver v hv h => cases hp
  | fn f a b va vb hla hlb ha hb iha ihb =>
    cases hp with
    | fn _ _ _ ca cb => exact .fn f a b va vb hla hlb (fun i p v h1 h2 => iha i p v h1 h2 (ca p (wb8 h1))) (fun i p v h1 h2 => ihb i p v h1 h2 (cb p (wb8 h1)))
inductive Sc : PV → Prop
  | u (v : Value) : Sc (.u v)
  | agg (cs : List PV) (h : ∀ c ∈ cs, Sc c) : Sc (.agg cs)
  | tup (cs : List PV) (h : ∀ c ∈ cs, Sc c) : Sc (.tup cs)
theorem Rp.sc {Z Z' : ZM} {H H' : PHeap} {V V' : Nm → Value} {w w' : World} {p : PV} {v : Value} (h : Rp Z H V w p v) (hp : Sc p) : Rp Z' H' V' w' p v := by
  induction h with
  | u v => exact .u v
  | agg cs vs hl h ih =>
    cases hp with
    | agg _ hc => exact .agg cs vs hl fun i p v h1 h2 => ih i p v h1 h2 (hc p (wb8 h1))
  | tup cs vs hl h ih =>
    cases hp with
    | tup _ hc => exact .tup cs vs hl fun i p v h1 h2 => ih i p v h1 h2 (hc p (wb8 h1))
  | nil k a c => cases hp
  | _ => cases hp
def View (H : PHeap) (p q : PV) : Prop := ∀ (P : Program) (W : Env) (V : Nm → Value) (w : World), HRel P W H V w → ∀ v, Rp W.Z H V w p v → Rp W.Z waa V0 w q v
theorem yp {Z : ZM} {b : Nat} : PZ Z waa V0 b ↔ Z b := by
  constructor
  · rintro (h | ⟨id, h, _⟩)
    · exact h
    · simp [waa] at h
  · exact .inl
theorem wax {P : Program} {W : Env} {w : World} (hb : Below W.w.heap.size W.w w) (hg : ∀ i, Rp W.Z waa V0 w (W.G i) (W.gv i)) (hz : ∀ b, W.Z b → b < w.heap.size) : HRel P W waa V0 w :=
  ⟨hb, fun id bd h => by simp [waa] at h, hg, fun id id' g h => by simp [waa] at h, hz, fun id b h => by simp [waa] at h⟩
theorem View.noP {H : PHeap} {p : PV} (h : NoP p) : View H p p := fun P W V w hr v hv => hv.noP h fun b _ hz hz' => hz (.inl (yp.1 hz'))
theorem View.agg {H : PHeap} {cs ds : List PV} (hl : cs.length = ds.length) (h : ∀ (i : Nat) (p q : PV), cs[i]? = some p → ds[i]? = some q → View H p q) : View H (.agg cs) (.agg ds) := fun P W V w hr v hv => by
  cases hv with
  | agg _ vs hl2 hc =>
    refine .agg _ _ (by omega) fun i q v h1 h2 => ?_
    have hlt := (wb3.1 h1).1
    have h3 := wb5 (l := cs) (i := i) (by omega)
    exact h i _ _ h3 h1 P W V w hr v (hc i _ v h3 h2)
theorem View.tup {H : PHeap} {cs ds : List PV} (hl : cs.length = ds.length) (h : ∀ (i : Nat) (p q : PV), cs[i]? = some p → ds[i]? = some q → View H p q) : View H (.tup cs) (.tup ds) := fun P W V w hr v hv => by
  cases hv with
  | tup _ vs hl2 hc =>
    refine .tup _ _ (by omega) fun i q v h1 h2 => ?_
    have hlt := (wb3.1 h1).1
    have h3 := wb5 (l := cs) (i := i) (by omega)
    exact h i _ _ h3 h1 P W V w hr v (hc i _ v h3 h2)
theorem wav {P : Program} {W : Env} {H : PHeap} {V : Nm → Value} {w : World} (hr : HRel P W H V w) {id : Nm} {b : Nat} (hs : (H id).body.isSome = true) (hb : jv (V id) = some b) : ¬ W.Z b := hr.nz id b hs hb
theorem View.row {H : PHeap} {id : Nm} {ver : Nat} {t : TypeId} {k n : Nat} {cs : List PV} (hl : yh H id ver = some (t, k, n, cs)) (xs : List PV) (hn : xs.length = n) (hu : ∀ y ∈ xs, y.cells.length = k)
    (h : ∀ (i : Nat) (p q : PV), cs[i]? = some p → (xs.flatMap PV.cells)[i]? = some q → View H p q) : View H (.ps id ver) (.sl k xs) := fun P W V w hr v hv => by
  obtain ⟨hb, hve⟩ := yc hl
  cases hv with
  | ps _ _ _ hvv hh =>
    have e := hh (by rw [hb]; rfl) hve
    subst e
    obtain ⟨vals, ho, hR, _⟩ := hr.row id t k n cs hb
    have hlen := ho.1
    have hflat : (xs.flatMap PV.cells).length = n * k := by
      have : ∀ (ys : List PV), (∀ y ∈ ys, y.cells.length = k) → (ys.flatMap PV.cells).length = ys.length * k := by
        intro ys
        induction ys with
        | nil => intro _; simp
        | cons y ys ih => intro hy; rw [wci, wch, ih (fun z hz => hy z (by simp [hz])), hy y (by simp), wc1, wc3]; omega
      rw [this xs hu, hn]
    rcases ho.2 with ⟨e, hn0⟩ | ⟨g, cap, cur, e, hg, hh2, hcap, _, _, htake⟩
    · have hx : xs = [] := wcm (by omega)
      rw [e, hx]
      exact .nil _ _ _
    · have hblk : jv (V id) = some g := by rw [e]; rfl
      have hz : ¬ PZ W.Z waa V0 g := fun hz => wav hr (by rw [hb]; rfl) hblk (yp.1 hz)
      have hcell : ∀ (i : Nat) (q : PV), (xs.flatMap PV.cells)[i]? = some q → ∃ u, vals[i]? = some u ∧ w.cell? ⟨g, 0 + i, none⟩ = some u ∧ Rp W.Z waa V0 w q u := fun i q hq => by
        have hlt := (wb3.1 hq).1
        have hi1 : i < vals.length := by omega
        have hi2 : i < cs.length := by rw [hR.1]; exact hi1
        refine ⟨vals[i], wb5 hi1, ?_, h i _ q (wb5 hi2) hq P W V w hr _ (hR.2 i _ _ (wb5 hi2) (wb5 hi1))⟩
        have := ho.cells (g := g) (by rw [e]; rfl) i _ (wb5 hi1)
        rwa [yf] at this
      have := Rp.sl (Z := W.Z) (H := waa) (V := V0) (w := w) k xs g 0 cap (fun i => (vals[i]?).getD undef) hu (by omega) hz (wcg.1 hh2).1 (fun i q hq => by
        obtain ⟨u, h1, h2, _⟩ := hcell i q hq
        rw [h1]; exact h2) (fun i q hq => by
        obtain ⟨u, h1, _, h3⟩ := hcell i q hq
        simp only [h1, wct]; exact h3)
      rw [hn] at this
      rw [e]
      exact this
theorem View.pp {H : PHeap} {id : Nm} {off ver : Nat} {cs ds : List PV} (hl : jx H id ver = some cs) (hd : cs.length = off + ds.length) (h : ∀ (i : Nat) (p q : PV), cs[off + i]? = some p → ds[i]? = some q → View H p q) : View H (.pp id off ver) (.rp ds) := fun P W V w hr v hv => by
  obtain ⟨a1, a2⟩ := yg hl
  cases hv with
  | pp _ _ _ _ hvv hh =>
    obtain ⟨g, hg, rfl⟩ := hh a1 a2
    obtain ⟨_, _, hc⟩ := zro hr hl hg
    have hcell : ∀ (i : Nat) (q : PV), ds[i]? = some q → ∃ u, w.cell? ⟨g, Jy (V id) + off + i, none⟩ = some u ∧ Rp W.Z waa V0 w q u := fun i q hq => by
      have hlt := (wb3.1 hq).1
      have h3 := wb5 (l := cs) (i := off + i) (by omega)
      obtain ⟨u, hu, hp⟩ := hc _ _ h3
      exact ⟨u, by rw [wd7]; exact hu, h i _ q h3 hq P W V w hr u hp⟩
    refine .rp ds g (Jy (V id) + off) (fun i => (w.cell? ⟨g, Jy (V id) + off + i, none⟩).getD undef) (fun hz => wav hr a1 hg (yp.1 hz)) (hr.own_lt a1 hg).2 (fun i q hq => ?_) (fun i q hq => ?_)
    · obtain ⟨u, hu, _⟩ := hcell i q hq
      simp [hu]
    · obtain ⟨u, hu, hp⟩ := hcell i q hq
      simp only [hu, wct]
      exact hp
def ViewL (H : PHeap) (ps qs : List PV) : Prop := ps.length = qs.length ∧ ∀ (i : Nat) (p q : PV), ps[i]? = some p → qs[i]? = some q → View H p q
theorem ViewL.nil (H : PHeap) : ViewL H [] [] := ⟨rfl, fun i p q h => by simp at h⟩
theorem ViewL.cons {H : PHeap} {p q : PV} {ps qs : List PV} (h : View H p q) (hs : ViewL H ps qs) : ViewL H (p :: ps) (q :: qs) := ⟨by simp [hs.1], fun i a b h1 h2 => by
  cases i with
  | zero => simp at h1 h2; subst h1 h2; exact h
  | succ i => exact hs.2 i a b (by simpa using h1) (by simpa using h2)⟩
def PCall (P : Program) (f : FuncId) (aq9 : List PV) (R : PV → Prop) : Prop :=
  ∀ (Z : ZM) (w : World) (vs : List Value), GW w → (∀ b, Z b → b < w.heap.size) → Z.m ≤ w.heap.size → RpL Z waa V0 w aq9 vs →
    Calls P f vs.toArray w (fun e w' => ∃ v p, e = .returned v ∧ R p ∧ NoP p ∧ Rp Z waa V0 w' p v ∧ Below w.heap.size w w')
def zr7 (P : Program) (f : FuncId) (aq9 : List PV) (t : TypeId) (k : Nat) (R : Nat → List Value → Prop) : Prop :=
  ∀ (w : World) (vs : List Value), RpL ⟨fun _ => False, 0⟩ waa V0 w aq9 vs →
    Calls P f vs.toArray w (fun e w' => ∃ v n us, e = .returned v ∧ R n us ∧ w'.ownsRow w.heap.size t k v n us ∧ (∀ u ∈ us, u.oneCell' = true) ∧ Below w.heap.size w w')
section
variable {P : Program} {W : Env} {n : Nat} {H : PHeap} {F : PFrame}
def PE (P : Program) (W : Env) (n : Nat) (o : Oper) (F : PFrame) (H : PHeap) (k : PV → PHeap → Prop) : Prop :=
  ∀ (V : Nm → Value) (a : Act) (w : World), Rel P W n F H V a w → o.wp P a w (fun a' w' => ∃ p H' V', k p H' ∧ Rel P W n (F.put o.dst p) H' V' a' w') (fun _ _ _ => False)
theorem wan {o : Oper} {p : PV} {k : PV → PHeap → Prop} (hd : Jc n o) (h : PQ P W o F H p) (hk : k p H) : PE P W n o F H k := fun V a w hr => by
  have := h V a w hr.heap fun t _ => hr.slot t
  exact Oper.wp_mono (fun a' w' ⟨v, e, hv, hb⟩ => ⟨p, H, V, hk, by rw [e]; exact hr.put hb o.dst hd hv⟩) this
theorem zb0 {o : Oper} {a : Act} {w : World} {f : FuncId} {args : Array Value} {K : Act → World → Prop} {Q : Exit → Act → World → Prop} (he : (execOp a.eval o).run P w = .ok (.enter f args) w) (hc : Calls P f args w (fun e w' => ∃ v, e = .returned v ∧ K (a.put o.dst v) w')) : o.wp P a w K Q := by
  unfold Oper.wp
  rw [he]
  exact hc.mono fun e w' ⟨v, h1, h2⟩ => by subst h1; exact h2
def Q8 (F : PFrame) (c : Call) : Option (FuncId × List PV) :=
  match c.callee with
  | .value x =>
    match evP F x with
    | .fn (.func f) a b => some (f, a ++ c.args.toList.map (evP F) ++ b)
    | _ => none
  | _ => none
def yr (P : Program) (f : FuncId) : Bool := match P.funcs[f]? with
  | some fn => fn.body.isSome && !(fn.name == "runtime.NumGoroutine")
  | none => false
theorem Qf {V : Nm → Value} {a : Act} {w : World} {o : Oper} {c : Call} (ho : o.op = .call c) {f : FuncId} {aq9 : List PV} (ht : Q8 F c = some (f, aq9)) (hf : yr P f = true) (hx : ∀ x ∈ o.op.operands, Rp W.Z H V w (evP F x) (a.eval x)) :
    ∃ vs : List Value, (execOp a.eval o).run P w = .ok (.enter f vs.toArray) w ∧ RpL W.Z H V w aq9 vs := by
  obtain ⟨callee, args, argTypes⟩ := c
  rw [ho] at hx
  unfold Q8 at ht
  cases callee with
  | builtin b => cases ht
  | invoke r m => cases ht
  | value x =>
    simp only at ht
    split at ht
    · rename_i g ca cb he
      cases ht
      have h1 := hx x (by simp [Op.operands, Call.operands])
      have h2 := RpL.eval (F := F) (a := a) args.toList fun y hy => hx y (by simp [Op.operands, Call.operands]; right; simpa using hy)
      rw [he] at h1
      generalize hv : a.eval x = v at h1
      cases h1 with
      | fn _ _ _ va vb hla hlb ha hb =>
        refine ⟨va.toList ++ args.toList.map a.eval ++ vb.toList, ?_, ?_⟩
        · unfold yr at hf
          split at hf
          · rename_i fn hfn
            simp only [wb6, wc5] at hf
            have hb : fn.body.isNone = false := by cases hh : fn.body <;> simp_all
            simp only [execOp, ho, resolve, hv, Deferred.ofValue, Sem.run_bind, Sem.run_pure, Result.andThen_ok, invoke, callFunc, run_program, hfn, hf.2, hb]
            simp
          · cases hf
        · have l1 : RpL W.Z H V w ca va.toList := ⟨by simpa using hla, fun i p v h3 h4 => ha i p v h3 (by simpa using h4)⟩
          have l2 : RpL W.Z H V w cb vb.toList := ⟨by simpa using hlb, fun i p v h3 h4 => hb i p v h3 (by simpa using h4)⟩
          have app : ∀ {a b : List PV} {x y : List Value}, RpL W.Z H V w a x → RpL W.Z H V w b y → RpL W.Z H V w (a ++ b) (x ++ y) := fun {a b x y} h1 h2 => ⟨by simp [h1.1, h2.1], fun i p v h3 h4 => by
            by_cases hi : i < a.length
            · rw [wcc hi] at h3
              rw [wcc (by rw [← h1.1]; exact hi)] at h4
              exact h1.2 i p v h3 h4
            · rw [wce (by omega)] at h3
              rw [wce (by rw [← h1.1]; omega), ← h1.1] at h4
              exact h2.2 _ p v h3 h4⟩
          exact app (app l1 h2) l2
    · cases ht
theorem RpL.view {V : Nm → Value} {w : World} (hr : HRel P W H V w) {ps qs : List PV} {vs : List Value} (h : RpL W.Z H V w ps vs) (hv : ViewL H ps qs) : RpL W.Z waa V0 w qs vs := ⟨by rw [← hv.1]; exact h.1, fun i q v h1 h2 => by
  have hlt := (wb3.1 h1).1
  have h3 := wb5 (l := ps) (i := i) (by have := hv.1; omega)
  exact hv.2 i _ q h3 h1 P W V w hr v (h.2 i _ v h3 h2)⟩
theorem wat {V : Nm → Value} {w : World} (hr : HRel P W H V w) : ∀ b, W.Z b → b < w.heap.size := hr.zlt
theorem waz {V : Nm → Value} {w : World} (hr : HRel P W H V w) : W.Z.m ≤ w.heap.size := wdo W.hm hr.below.size
theorem wbv {o : Oper} {c : Call} {p0 : PV} {aq9 qs : List PV} {f : FuncId} (ho : o.op = .call c) (ht : Q8 F c = some (f, aq9)) (hf : yr P f = true) (hv : ViewL H aq9 qs) (hc : PCall P f qs (· = p0)) (hs : Sc p0) : PQ P W o F H p0 := fun V a w hr hx => by
  obtain ⟨vs, he, hR⟩ := Qf (P := P) (W := W) (H := H) (V := V) (a := a) (w := w) ho ht hf fun x hx' => Rp.eval (P := P) x fun t ht => hx t (by rw [← ht]; exact hx')
  exact zb0 he ((hc W.Z w vs hr.gw (wat hr) (waz hr) (hR.view hr hv)).mono fun e w' ⟨v, p, h1, h2, _, h3, hb⟩ => ⟨v, h1, v, rfl, by subst h2; exact h3.sc hs, hb⟩)
theorem wbu {o : Oper} {c : Call} {p0 : PV} {aq9 qs : List PV} {f : FuncId} (ho : o.op = .call c) (ht : Q8 F c = some (f, aq9)) (hf : yr P f = true) (hv : ViewL waa aq9 qs) (hn : ∀ p ∈ aq9, NoP p) (hc : PCall P f qs (· = p0)) : PQ P W o F H p0 := fun V a w hr hx => by
  obtain ⟨vs, he, hR⟩ := Qf (P := P) (W := W) (H := H) (V := V) (a := a) (w := w) ho ht hf fun x hx' => Rp.eval (P := P) x fun t ht => hx t (by rw [← ht]; exact hx')
  have hlt : ∀ b, PZ W.Z H V b → b < w.heap.size := fun b hb => by
    rcases hb with hb | ⟨id, h1, h2⟩
    · exact wat hr b hb
    · exact (hr.own_lt h1 h2).2
  have hR2 : RpL ⟨PZ W.Z H V, W.Z.m⟩ waa V0 w aq9 vs := ⟨hR.1, fun i p v h1 h2 => (hR.2 i p v h1 h2).noP (hn p (wb8 h1)) fun b _ hz hz' => hz (yp.1 hz')⟩
  have hR3 : RpL ⟨PZ W.Z H V, W.Z.m⟩ waa V0 w qs vs := RpL.view (P := P) (W := { w := w, Z := ⟨PZ W.Z H V, W.Z.m⟩, hm := waz hr, gw := hr.gw }) (V := V0) (wax (Below.refl _ _) (fun i => .unk _) hlt) hR2 hv
  exact zb0 he ((hc ⟨PZ W.Z H V, W.Z.m⟩ w vs hr.gw hlt (waz hr) hR3).mono fun e w' ⟨v, p, h1, h2, hnp, h3, hb⟩ => ⟨v, h1, v, rfl, by subst h2; exact h3.noP hnp fun b _ hz hz' => hz (yp.2 hz'), hb⟩)
theorem Rel.turn {V : Nm → Value} {a : Act} {w w' : World} (hr : Rel P W n F H V a w) {id : Nm} {b' : zd4} {v0 : Value} (ht : Turn W H V w id b' v0 w') (hb : ∀ bd, b'.body = some bd → BodyRel W (H.set id b') (vg V id v0) w' v0 bd) (d : Option Nat) (hd : ∀ t, d = some t → t < n) {p : PV} {v : Value} (hp : Rp W.Z (H.set id b') (vg V id v0) w' p v) :
    Rel P W n (F.put d p) (H.set id b') (vg V id v0) (a.put d v) w' := by
  refine ⟨ht.heap hr.heap hb, ?_, ?_, fun t => ?_⟩
  · cases d <;> simp [Act.put, hr.size]
  · cases d <;> simp [Act.put, hr.defers]
  · cases d with
    | none => simpa [Act.put, PFrame.put] using ht.rp (hr.slot t)
    | some d =>
      by_cases e : d = t
      · subst e
        have := hd d rfl
        simpa [Act.put, PFrame.put, hr.size, this] using hp
      · have e2 : ¬ (some d = some t) := by simpa using e
        simp only [PFrame.put, if_neg e2]
        have := ht.rp (hr.slot t)
        simpa [Act.put, wd3 e] using this
theorem Turn.new {V : Nm → Value} {w w' : World} (hr : HRel P W H V w) (hb : Below w.heap.size w w') {id : Nm} {b' : zd4} (hv : b'.ver = (H id).ver + 1) {v0 : Value} (h0 : ∀ g, jv v0 = some g → w.heap.size ≤ g) : Turn W H V w id b' v0 w' :=
  ⟨hr.below.trans (hb.mono hr.below.size), hb.size, fun b hlt _ => hb.block b hlt, fun g hg => .inl (h0 g hg), .inl (by omega)⟩
theorem wbg {o : Oper} {c : Call} {aq9 qs : List PV} {f : FuncId} {t : TypeId} {kk d : Nat} {id : Nm} {R : Nat → List Value → Prop} {k : PV → PHeap → Prop} (hd : o.dst = some d) (hdn : d < n) (ho : o.op = .call c) (ht : Q8 F c = some (f, aq9)) (hf : yr P f = true) (hv : ViewL H aq9 qs) (hc : zr7 P f qs t kk R)
    (hk : ∀ m us, R m us → us.length = m * kk → k (.ps id ((H id).ver + 1)) (H.set id ⟨(H id).ver + 1, some (.row t kk m (us.map .u))⟩)) : PE P W n o F H k := fun V a w hr => by
  obtain ⟨vs, he, hR⟩ := Qf (P := P) (W := W) (H := H) (V := V) (a := a) (w := w) ho ht hf fun x hx' => Rp.eval (P := P) x fun t ht => hr.slot t
  have hR2 := hR.view hr.heap hv
  refine zb0 he ((hc w vs ⟨hR2.1, fun i p v h1 h2 => (hR2.2 i p v h1 h2).mono (fun b hb hlt => ⟨fun hq => (yp.1 hq).elim, hlt, rfl⟩) (wdq _) (fun _ => wb7 _) (fun id ver _ h1 h2 => ⟨h1, h2, rfl⟩)⟩).mono fun e w' ⟨v, m, us, h1, h2, ho2, h4, hb⟩ => ⟨v, h1, .ps id ((H id).ver + 1), _, vg V id v, hk m us h2 ho2.1, ?_⟩)
  have hsz := hr.heap.below.size
  have hown : w'.ownsRow W.w.heap.size t kk v m us := ⟨ho2.1, by
    rcases ho2.2 with h5 | ⟨g, cap, cur, e, hg, r⟩
    · exact .inl h5
    · exact .inr ⟨g, cap, cur, e, by omega, r⟩⟩
  refine hr.turn (Turn.new hr.heap hb rfl fun g hg => ?_) (fun bd hbd => ?_) o.dst (fun t ht => by rw [hd] at ht; cases ht; exact hdn) ?_
  · rcases ho2.2 with ⟨e, _⟩ | ⟨g', cap, cur, e, hg', _⟩
    · rw [e] at hg; cases hg
    · rw [e] at hg; cases hg; exact hg'
  · cases hbd
    exact ⟨us, hown, RpL.us us, h4⟩
  · refine .ps _ _ _ ?_ fun _ _ => ?_
    · simp [PHeap.set]
    · simp [vg]
end
section
variable {P : Program} {W : Env} {n : Nat} {H : PHeap} {F : PFrame}
theorem ve {o : Oper} {a : Act} {w w' : World} {v : Value} {K : Act → World → Prop} {Q : Exit → Act → World → Prop} (he : (execOp a.eval o).run P w = .ok (.value v) w') (h : K (a.put o.dst v) w') : o.wp P a w K Q := by
  unfold Oper.wp
  rw [he]
  exact h
theorem Rel.newBox {V : Nm → Value} {a : Act} {w : World} (hr : Rel P W n F H V a w) {d : Nat} {id : Nm} (hd : d < n) {t : TypeId} {cs : List PV} {us : Array Value} (hR : RpL W.Z H V w cs us.toList) (h1 : ∀ v ∈ us.toList, v.oneCell' = true) :
    Rel P W n (F.put (some d) (.pp id 0 ((H id).ver + 1))) (H.set id ⟨(H id).ver + 1, some (.box t cs)⟩) (vg V id (.pointer (some ⟨w.heap.size, 0, none⟩))) (a.put (some d) (.pointer (some ⟨w.heap.size, 0, none⟩))) (w.alloc (.cells us t)) := by
  have hb : Below w.heap.size w (w.alloc (.cells us t)) := (Below.refl _ _).alloc (wb7 _) _
  have ht : Turn W H V w id ⟨(H id).ver + 1, some (.box t cs)⟩ (.pointer (some ⟨w.heap.size, 0, none⟩)) (w.alloc (.cells us t)) := Turn.new hr.heap hb rfl fun g hg => by cases hg; exact wb7 _
  refine hr.turn ht (fun bd hbd => ?_) (some d) (fun t ht => by cases ht; exact hd) ?_
  · cases hbd
    exact ⟨_, us, rfl, hr.heap.below.size, heap_alloc_new w _, hR.mono fun p v hp => ht.rp hp, h1⟩
  · refine .pp _ _ _ _ ?_ fun _ _ => ⟨w.heap.size, ?_, by simp [vg, Jy]⟩
    · simp [PHeap.set]
    · simp [vg, jv]
def zio (P : Program) (t : TypeId) : Option (List Value) := ((P.info? t).bind (·.zero)).map fun z => z.cells.toList
theorem PE.alloc {o : Oper} {t : TypeId} {d : Nat} {id : Nm} {us : List Value} {k : PV → PHeap → Prop} (ho : o.op = .alloc t) (hd : o.dst = some d) (hdn : d < n) (hz : zio P t = some us) (h1 : us.all Value.oneCell' = true) (hk : k (.pp id 0 ((H id).ver + 1)) (H.set id ⟨(H id).ver + 1, some (.box t (us.map .u))⟩)) : PE P W n o F H k := fun V a w hr => by
  obtain ⟨z, hz1, rfl⟩ := wca.1 hz
  obtain ⟨ti, hti, htz⟩ := wda.1 hz1
  have hrun : (execOp a.eval o).run P w = .ok (.value (.pointer (some ⟨w.heap.size, 0, none⟩))) (w.alloc (.cells z.cells t)) := by
    simp only [execOp, ho]
    simp [Instr.alloc, zeroValue, typeInfo, hti, htz, newVar, newRow]
  refine ve hrun ⟨_, _, vg V id (.pointer (some ⟨w.heap.size, 0, none⟩)), hk, ?_⟩
  rw [hd]
  exact hr.newBox hdn (RpL.us _) (wcz.1 h1)
theorem PE.box {o : Oper} {t : TypeId} {x : Operand} {d : Nat} {id : Nm} {k : PV → PHeap → Prop} (ho : o.op = .box t x) (hd : o.dst = some d) (hdn : d < n) (hok : okC H (evP F x) = true) (hk : k (.pp id 0 ((H id).ver + 1)) (H.set id ⟨(H id).ver + 1, some (.box t (evP F x).cells)⟩)) : PE P W n o F H k := fun V a w hr => by
  obtain ⟨hR, h1⟩ := (Rp.eval (P := P) (F := F) (a := a) x fun t _ => hr.slot t).cells hr.heap hok
  have hrun : (execOp a.eval o).run P w = .ok (.value (.pointer (some ⟨w.heap.size, 0, none⟩))) (w.alloc (.cells (a.eval x).cells t)) := by
    simp only [execOp, ho]
    simp [Instr.box, newVar, newRow]
  refine ve hrun ⟨_, _, vg V id (.pointer (some ⟨w.heap.size, 0, none⟩)), hk, ?_⟩
  rw [hd]
  exact hr.newBox hdn hR h1
def zt9 (off : Nat) (ps : List PV) : PBody → PBody
  | .row t k n cs => .row t k n (setMany cs off ps)
  | .box t cs => .box t (setMany cs off ps)
  | b => b
theorem zp7 {α : Type} (cs ps : List α) (off m : Nat) (h : off + ps.length ≤ m) (hm : m ≤ cs.length) : (setMany cs off ps).take m = setMany (cs.take m) off ps := by
  apply wdt
  intro i
  rw [wc6, Jh _ _ _ (by omega), Jh _ _ _ (by simp; omega), wc6]
  by_cases hi : i < m
  · simp [hi]
  · rw [if_neg hi, if_neg (by omega), if_neg hi]
theorem zp4 {w : World} {t : TypeId} {ag : Bool} {k g off : Nat} {cur : Array Value} {T : TypeId} {v : Value} (ht : asz P t = some (ag, k)) (hg : w.heap[g]? = some (.cells cur T (0, 0))) (hk : v.cells.size = k) (hfit : off + k ≤ cur.size) (h1 : ∀ u ∈ v.cells.toList, u.oneCell' = true) :
    (Instr.storeAt t (.pointer (some ⟨g, off, none⟩)) v).run P w = .ok () (w.setRow g (setMany cur.toList off v.cells.toList).toArray) := by
  have h2 := (zc4 ht w).2
  have h3 := run_storeCells_at (P := P) g off T v.cells.toList 0 cur w hg (by simp [hk]; omega) h1
  simp only [Instr.storeAt, Instr.sureAddr, storeVar, Sem.run_bind, Sem.run_pure, Result.andThen_ok, h2, hk, ne_eq, not_true_eq_false, if_false]
  simp only [wdb] at h3
  simpa [setMany] using h3
theorem PE.store {o : Oper} {t : TypeId} {x y : Operand} {id : Nm} {off ver k : Nat} {ag : Bool} {cs : List PV} {bd : PBody} {K : PV → PHeap → Prop} (ho : o.op = .store t x y) (hd : Jc n o) (hx : evP F x = .pp id off ver) (hl : jx H id ver = some cs) (ht : asz P t = some (ag, k)) (hok : okC H (evP F y) = true) (hlen : (evP F y).cells.length = k) (hfit : off + k ≤ cs.length) (hbd : (H id).body = some bd)
    (hk : K (.u undef) (H.set id ⟨ver, some (zt9 off (evP F y).cells bd)⟩)) (hq : ∀ t k n cs, bd ≠ .que t k n cs := by intro _ _ _ _ h; cases h) : PE P W n o F H K := fun V a w hr => by
  obtain ⟨hR, h1⟩ := (Rp.eval (P := P) (F := F) (a := a) y fun t _ => hr.slot t).cells hr.heap hok
  have hxv := Rp.eval (P := P) (F := F) (a := a) (Z := W.Z) (H := H) (V := V) (w := w) x fun t _ => hr.slot t
  obtain ⟨a1, a2⟩ := yg hl
  rw [hx] at hxv
  generalize hv : a.eval x = v at hxv
  cases hxv with
  | pp _ _ _ _ hvv hh =>
    obtain ⟨g, hg, rfl⟩ := hh a1 a2
    have h0 : Jy (V id) = 0 := by obtain ⟨vs, h1, _⟩ := hr.heap.body id bd hbd; exact h1.off0 hq
    rw [h0, wcx] at hv
    have hsz : (a.eval y).cells.size = k := by rw [← hlen]; have := hR.1; simpa using this.symm
    -- the block, and what it is behind the store
    have key : ∃ cur T, w.heap[g]? = some (.cells cur T (0, 0)) ∧ off + k ≤ cur.size ∧ W.w.heap.size ≤ g ∧
        ∀ H' V' w', (∀ p v, Rp W.Z H V w p v → Rp W.Z H' V' w' p v) → w'.heap[g]? = some (.cells (setMany cur.toList off (a.eval y).cells.toList).toArray T (0, 0)) → BodyRel W H' V' w' (V id) (zt9 off (evP F y).cells bd) := by
      have hown := (hr.heap.own_lt a1 hg).1
      cases bd with
      | row T kk m cs' =>
        have hcs : cs' = cs := by unfold jx at hl; rw [hbd] at hl; simp only [a2, if_true, wco] at hl; exact hl
        subst hcs
        obtain ⟨vals, ho2, hR2, h12⟩ := hr.heap.row id T kk m cs' hbd
        rcases ho2.2 with ⟨e, _⟩ | ⟨g', cap, cur, e, hg', hh', hcap, hmax, hsize, htake⟩
        · rw [e] at hg; cases hg
        · have : g' = g := by rw [e] at hg; simpa [jv] using hg
          subst this
          have hvl : cs'.length = vals.length := hR2.1
          have hm1 : m * kk = vals.length := ho2.1.symm
          have hmc : m * kk ≤ cur.size := by rw [hsize]; exact wdd _ hcap
          refine ⟨cur, T, hh', by omega, hown, fun H' V' w' hm hw' => ?_⟩
          refine ⟨setMany vals off (a.eval y).cells.toList, ⟨by rw [yq _ _ _ (by simp [hsz]; omega)]; exact ho2.1, .inr ⟨g', cap, _, e, hg', hw', hcap, hmax, by simp [yq _ _ _ (show off + (a.eval y).cells.toList.length ≤ cur.toList.length by simp [hsz]; omega), hsize], ?_⟩⟩, ?_, ?_⟩
          · rw [zp7 _ _ _ _ (by simp [hsz]; omega) (by simpa using hmc), htake]
          · have := RpL.setMany (W := W) (H := H) hR2 hR (off := off) (by omega)
            exact this.mono hm
          · intro u hu
            rcases Yb hu with hu | hu
            · exact h12 u hu
            · exact h1 u hu
      | box T cs' =>
        have hcs : cs' = cs := by unfold jx at hl; rw [hbd] at hl; simp only [a2, if_true, wco] at hl; exact hl
        subst hcs
        obtain ⟨g', arr, e, hg', hh', hR2, h12⟩ := hr.heap.box id T cs' hbd
        have : g' = g := by rw [e] at hg; simpa [jv] using hg
        subst this
        have hvl : cs'.length = arr.size := by have := hR2.1; simpa using this
        refine ⟨arr, T, hh', by omega, hown, fun H' V' w' hm hw' => ?_⟩
        refine ⟨g', _, e, hg', hw', ?_, ?_⟩
        · simp only [List.toList_toArray]
          exact (RpL.setMany (W := W) (H := H) hR2 hR (off := off) (by omega)).mono hm
        · intro u hu
          rcases Yb hu with hu | hu
          · exact h12 u hu
          · exact h1 u hu
      | raw p cs φ => unfold jx at hl; rw [hbd] at hl; cases hl
      | que t k n cs => exact absurd rfl (hq _ _ _ _)
    obtain ⟨cur, T, hcur, hfit2, hWg, hbody⟩ := key
    have hrun := zp4 (P := P) (off := off) ht hcur hsz hfit2 h1
    have hturn : Turn W H V w id ⟨ver, some (zt9 off (evP F y).cells bd)⟩ (V id) (w.setRow g (setMany cur.toList off (a.eval y).cells.toList).toArray) := by
      have hother : ∀ b, b ≠ g → (w.setRow g (setMany cur.toList off (a.eval y).cells.toList).toArray).heap[b]? = w.heap[b]? := fun b hb => setRow_other w g b _ hb
      refine ⟨hr.heap.below.trans ⟨rfl, rfl, rfl, by simp, fun b hb => hother b (by omega)⟩, by simp, fun b hb hn => hother b fun e => hn ⟨a1, by rw [e]; exact hg⟩, fun g' hg' => .inr ⟨a1, hg'⟩, .inr ⟨a2.symm, rfl, a1⟩⟩
    have : (execOp a.eval o).run P w = .ok .skip (w.setRow g (setMany cur.toList off (a.eval y).cells.toList).toArray) := by
      simp [execOp, ho, hv, hrun]
    unfold Oper.wp
    rw [this]
    exact ⟨.u undef, _, vg V id (V id), hk, hr.turn hturn (fun bd' hbd' => by
      cases hbd'
      exact hbody _ _ _ (fun p v hp => hturn.rp hp) (setRow_heap w g cur _ T (0, 0) hcur)) o.dst hd (.u _)⟩
def q6 (P : Program) (t : TypeId) : Option (TypeId × Nat × Nat × Value) :=
  match P.underlying t with
  | some (.slice e) =>
    match P.info? e with
    | some i => match i.zero with
      | some z => if z.cells.size = i.size ∧ 0 < i.size then some (e, i.size, i.bytes, z) else none
      | none => none
    | none => none
  | _ => none
theorem yo {t e : TypeId} {k b : Nat} {z : Value} (h : q6 P t = some (e, k, b, z)) : ∃ i, P.underlying t = some (.slice e) ∧ P.info? e = some i ∧ i.zero = some z ∧ i.size = k ∧ i.bytes = b ∧ z.cells.size = k ∧ 0 < k := by
  unfold q6 at h
  split at h
  · rename_i e' hu
    split at h
    · rename_i i hi
      split at h
      · rename_i z' hz
        split at h
        · rename_i hc
          cases h
          exact ⟨i, hu, hi, hz, rfl, rfl, hc.1, hc.2⟩
        · cases h
      · cases h
    · cases h
  · cases h
theorem zol {k : Nat} {places : List (Nat × Nat)} : ∀ (ps : List PV) (i : Nat) (cs : List PV), (∀ p ∈ ps, p.cells.length = k ∧ okC H p = true) → (∀ j, j < ps.length → places[i + j]? = some ((i + j) * k, k)) → (i + ps.length) * k = cs.length →
    zb4 H places cs ((List.range' i ps.length).zip ps) = some (cs.take (i * k) ++ ps.flatMap PV.cells)
  | [], i, cs, _, _, hl => by
    simp only [wdj, List.range'_zero, List.zip_nil_left, zb4, wel, wcl]
    rw [wdr (by simp at hl; omega)]
  | p :: ps, i, cs, hp, hpl, hl => by
    obtain ⟨h1, h2⟩ := hp p (by simp)
    have h3 := hpl 0 (by simp)
    simp only [wdb] at h3
    have e : (i + (ps.length + 1)) * k = i * k + k + ps.length * k := by rw [wc3, wc3]; omega
    simp only [wc1] at hl ⊢
    rw [e] at hl
    simp only [List.range'_succ, List.zip_cons_cons, zb4, h3]
    rw [if_pos ⟨h1, by omega, h2⟩, zol ps (i + 1) _ (fun q hq => hp q (by simp [hq])) (fun j hj => by have := hpl (j + 1) (by simp; omega); rwa [show i + (j + 1) = i + 1 + j by omega] at this) (by rw [yq _ _ _ (by omega), ← hl, wc3, wc3]; omega)]
    congr 1
    rw [wci, ← wcq]
    congr 1
    unfold setMany
    rw [h1, wc3, Nat.one_mul, List.take_append_of_le_length (by simp; omega), wdr (by simp; omega)]
def zma (H : PHeap) (k len : Nat) (ps : List (Nat × PV)) : Bool := decide (ps.map (·.1) = range len) && ps.all (fun p => decide (p.2.cells.length = k) && okC H p.2)
theorem zc2 {V : Nm → Value} {w : World} (hr : HRel P W H V w) {t e : TypeId} {k b len : Nat} {z : Value} (ht : q6 P t = some (e, k, b, z)) (hbig : len * k ≤ 16777216) {ps : List (Nat × PV)} {vs : Array (Nat × Value)} (hp : RpParts W.Z H V w ps vs.toList) (hlit : zma H k len ps = true) (hz : z.cells.toList.all Value.oneCell' = true) :
    ∃ arr : Array Value, (Instr.buildSlice t len vs).run P w = .ok (.slice (some ⟨w.heap.size, 0, none⟩) len len) (w.alloc (.cells arr e)) ∧ RpL W.Z H V w ((ps.map (·.2)).flatMap PV.cells) arr.toList ∧ (∀ v ∈ arr.toList, v.oneCell' = true) ∧ arr.size = len * k ∧ ps.length = len := by
  obtain ⟨i, hu, hi, hzz, rfl, rfl, hzs, hpos⟩ := yo ht
  simp only [zma, wb6, wc9, wcz] at hlit
  obtain ⟨hidx, hall⟩ := hlit
  have hlen : ps.length = len := by have := congrArg List.length hidx; simpa using this
  have hzip : ps = (List.range' 0 (ps.map (·.2)).length).zip (ps.map (·.2)) := by
    rw [wcs, hlen, ← wd6, ← hidx]
    clear hidx hall hlen hp
    induction ps with
    | nil => rfl
    | cons p ps ih => simp only [wcj, List.zip_cons_cons]; rw [← ih]
  let zs : Array Value := (Array.range (len * i.size)).map (z.cells[· % z.cells.size]!)
  have hzsz : zs.size = len * i.size := by simp [zs]
  have hone : ∀ v ∈ zs.toList, v.oneCell' = true := fun v hv => by
    simp only [zs, Array.toList_map, wcf] at hv
    obtain ⟨j, _, rfl⟩ := hv
    have hj : j % z.cells.size < z.cells.size := Nat.mod_lt _ (by omega)
    rw [getElem!_pos z.cells _ hj]
    rw [wcz] at hz
    exact hz _ (by simp)
  have hf : zb4 H ((range len).map fun j => (j * i.size, i.size)) (zs.toList.map .u) ps = some ((ps.map (·.2)).flatMap PV.cells) := by
    have := zol (H := H) (k := i.size) (places := (range len).map fun j => (j * i.size, i.size)) (ps.map (·.2)) 0 (zs.toList.map .u) (fun p hp => by
      obtain ⟨q, hq, rfl⟩ := wcf.1 hp
      have := hall q hq
      simpa using this) (fun j hj => by
      rw [wcs, hlen] at hj
      simp [hj]) (by simp [hzsz, hlen])
    rw [← hzip] at this
    simpa using this
  obtain ⟨r, hr1, hr2, hr3⟩ := zbt hr (place := fun j => some (j * i.size, i.size)) (places := (range len).map fun j => (j * i.size, i.size)) (fun j x hx => by
    rw [wb9] at hx
    cases hj : (range len)[j]? with
    | none => rw [hj] at hx; cases hx
    | some j' =>
      rw [hj] at hx
      obtain ⟨h1, h2⟩ := wb3.1 hj
      have : j' = j := by simpa using h2.symm
      subst this
      simpa using hx) ps vs.toList _ zs _ hp (RpL.us _) hone hf
  have hrsz : r.size = len * i.size := by
    have h1 := hr2.1
    have : ((ps.map (·.2)).flatMap PV.cells).length = len * i.size := by
      have : ∀ (ys : List PV), (∀ y ∈ ys, y.cells.length = i.size) → (ys.flatMap PV.cells).length = ys.length * i.size := by
        intro ys
        induction ys with
        | nil => intro _; simp
        | cons y ys ih => intro hy; rw [wci, wch, ih (fun z hz => hy z (by simp [hz])), hy y (by simp), wc1, wc3]; omega
      rw [this _ (fun y hy => by
        obtain ⟨q, hq, rfl⟩ := wcf.1 hy
        exact (hall q hq).1), wcs, hlen]
    rw [this] at h1
    simpa using h1.symm
  refine ⟨r, ?_, hr2, hr3, hrsz, hlen⟩
  have hzv : (zeroValue e).run P w = .ok z w := by simp [zeroValue, typeInfo, hi, hzz]
  have hsz : (sizeOf e).run P w = .ok i.size w := by simp [sizeOf, typeInfo, hi]
  have hnb : ¬ (len * i.size > 16777216) := by omega
  by_cases h0 : len * i.size = 0
  · have hl0 : len = 0 := by rcases Nat.mul_eq_zero.1 h0 with h | h <;> omega
    subst hl0
    have hps : ps = [] := wcm hlen
    have hvs : vs = #[] := by apply Array.ext'; have := hp.1; rw [hps] at this; exact wcm this.symm
    subst hvs
    have hr0 : r = #[] := by apply Array.ext'; exact wcm (by simpa using hrsz)
    subst hr0
    unfold Instr.buildSlice
    have hra : Array.range 0 = #[] := rfl
    simp [run_underlying hu, hsz, newRow, Instr.fill, hra]
  · unfold Instr.buildSlice
    simp only [run_underlying hu, hsz, Sem.run_bind, Result.andThen_ok, hnb, h0, if_false, hzv, Sem.run_ite, Sem.run_pure]
    have : Instr.fill (fun i_1 => some (i_1 * i.size, i.size)) ((Array.range (len * i.size)).map (z.cells[· % z.cells.size]!)) vs.toList = some r := hr1
    simp [this, newRow]
end
section
variable {P : Program} {W : Env} {n : Nat} {H : PHeap} {F : PFrame}
theorem RpParts.eval {V : Nm → Value} {w : World} {a : Act} (parts : Array (Nat × Operand)) (h : ∀ x ∈ parts.toList, Rp W.Z H V w (evP F x.2) (a.eval x.2)) :
    RpParts W.Z H V w (parts.toList.map fun x => (x.1, evP F x.2)) (parts.map fun (x : Nat × Operand) => (x.1, a.eval x.2)).toList := ⟨by simp, fun i p v h1 h2 => by
  rw [wb9] at h1
  rw [Array.toList_map, wb9] at h2
  cases hi : parts.toList[i]? with
  | none => rw [hi] at h1; cases h1
  | some y =>
    rw [hi] at h1 h2
    cases h1
    cases h2
    exact ⟨rfl, h y (wb8 hi)⟩⟩
theorem Rel.newRow {V : Nm → Value} {a : Act} {w w' : World} (hr : Rel P W n F H V a w) {d : Nat} {id : Nm} (hd : d < n) {t : TypeId} {k m : Nat} {cs : List PV} {us : List Value} {v0 : Value} (hb : Below w.heap.size w w') (hv0 : ∀ g, jv v0 = some g → w.heap.size ≤ g) (ho : w'.ownsRow W.w.heap.size t k v0 m us)
    (hR : RpL W.Z H V w cs us) (h1 : ∀ v ∈ us, v.oneCell' = true) :
    Rel P W n (F.put (some d) (.ps id ((H id).ver + 1))) (H.set id ⟨(H id).ver + 1, some (.row t k m cs)⟩) (vg V id v0) (a.put (some d) v0) w' := by
  have ht : Turn W H V w id ⟨(H id).ver + 1, some (.row t k m cs)⟩ v0 w' := Turn.new hr.heap hb rfl hv0
  refine hr.turn ht (fun bd hbd => ?_) (some d) (fun t ht => by cases ht; exact hd) ?_
  · cases hbd
    exact ⟨us, ho, hR.mono fun p v hp => ht.rp hp, h1⟩
  · refine .ps _ _ _ ?_ fun _ _ => ?_
    · simp [PHeap.set]
    · simp [vg]
theorem PE.buildSlice {o : Oper} {t e : TypeId} {k b len d : Nat} {id : Nm} {z : Value} {parts : Array (Nat × Operand)} {K : PV → PHeap → Prop} (ho : o.op = .buildSlice t len parts) (hd : o.dst = some d) (hdn : d < n) (ht : q6 P t = some (e, k, b, z)) (hz : z.cells.toList.all Value.oneCell' = true) (hbig : len * k ≤ 16777216) (hmax : len ≤ maxLen)
    (hlit : zma H k len (parts.toList.map fun x => (x.1, evP F x.2)) = true) (hk : K (.ps id ((H id).ver + 1)) (H.set id ⟨(H id).ver + 1, some (.row e k len ((parts.toList.map fun x => evP F x.2).flatMap PV.cells))⟩)) : PE P W n o F H K := fun V a w hr => by
  have hp := RpParts.eval (W := W) (H := H) (V := V) (w := w) (F := F) (a := a) parts fun x _ => Rp.eval (P := P) x.2 fun t _ => hr.slot t
  obtain ⟨arr, hrun, hR, h1, hsz, hlen⟩ := zc2 hr.heap ht hbig hp hlit hz
  have hex : (execOp a.eval o).run P w = .ok (.value (.slice (some ⟨w.heap.size, 0, none⟩) len len)) (w.alloc (.cells arr e)) := by
    simp [execOp, ho, hrun]
  refine ve hex ⟨_, _, vg V id (.slice (some ⟨w.heap.size, 0, none⟩) len len), hk, ?_⟩
  rw [hd]
  have hb : Below w.heap.size w (w.alloc (.cells arr e)) := (Below.refl _ _).alloc (wb7 _) _
  refine hr.newRow (us := arr.toList) hdn hb (fun g hg => by cases hg; exact wb7 _) ⟨by simp [hsz], .inr ⟨w.heap.size, len, arr, rfl, hr.heap.below.size, heap_alloc_new w _, wb7 _, hmax, hsz, by rw [wdr (by simp [hsz])]⟩⟩ ?_ h1
  simpa [wc7, Function.comp_def] using hR
theorem PQ.buildSlice {o : Oper} {t e : TypeId} {k b len : Nat} {z : Value} {parts : Array (Nat × Operand)} (ho : o.op = .buildSlice t len parts) (ht : q6 P t = some (e, k, b, z)) (hz : z.cells.toList.all Value.oneCell' = true) (hbig : len * k ≤ 16777216)
    (hlit : zma H k len (parts.toList.map fun x => (x.1, evP F x.2)) = true) : PQ P W o F H (.sl k (parts.toList.map fun x => evP F x.2)) := fun V a w hr hx => by
  have hp := RpParts.eval (W := W) (H := H) (V := V) (w := w) (F := F) (a := a) parts fun x hx' => Rp.eval (P := P) x.2 fun t ht => hx t (by
    rw [ho]
    simp only [Op.operands, List.mem_toArray, wcf]
    exact ⟨x, hx', ht⟩)
  obtain ⟨arr, hrun, hR, h1, hsz, hlen⟩ := zc2 hr ht hbig hp hlit hz
  have hex : (execOp a.eval o).run P w = .ok (.value (.slice (some ⟨w.heap.size, 0, none⟩) len len)) (w.alloc (.cells arr e)) := by
    simp [execOp, ho, hrun]
  have hb : Below w.heap.size w (w.alloc (.cells arr e)) := (Below.refl _ _).alloc (wb7 _) _
  refine ve hex ⟨_, rfl, ?_, hb⟩
  have hps : (parts.toList.map fun x => (x.1, evP F x.2)).map (·.2) = parts.toList.map fun x => evP F x.2 := by simp [wc7, Function.comp_def]
  rw [hps] at hR
  have hl2 : (parts.toList.map fun x => evP F x.2).length = len := by simpa using hlen
  simp only [zma, wb6, wc9, wcz] at hlit
  have := Rp.sl (Z := W.Z) (H := H) (V := V) (w := w.alloc (.cells arr e)) k (parts.toList.map fun x => evP F x.2) w.heap.size 0 len (fun i => (arr[i]?).getD undef) (fun y hy => by
    obtain ⟨q, hq, rfl⟩ := wcf.1 hy
    exact (hlit.2 (q.1, evP F q.2) (wcf.2 ⟨q, hq, rfl⟩)).1) (by omega) (fun hz => by
    rcases hz with hz | ⟨id, h3, h4⟩
    · have := wat hr _ hz; omega
    · have := (hr.own_lt h3 h4).2; omega) (by simp) (fun i p hi => by
    have hlt := (wb3.1 hi).1
    have hia : i < arr.size := Nat.lt_of_lt_of_eq hlt (hR.1.trans Array.length_toList)
    rw [cell_of_row _ w.heap.size (0 + i) arr e (0, 0) (heap_alloc_new w _), wcx]
    simp [hia]) (fun i p hi => by
    have hlt := (wb3.1 hi).1
    have hia : i < arr.size := Nat.lt_of_lt_of_eq hlt (hR.1.trans Array.length_toList)
    have := hR.2 i p arr[i] hi (by simp [hia])
    simp only [hia, wcn, wct]
    exact this.grow hb)
  rwa [hl2] at this
theorem PE.makeSlice {o : Oper} {t e : TypeId} {b d m : Nat} {id : Nm} {z : Value} {x y : Operand} {kx ky : IntKind} {K : PV → PHeap → Prop} (ho : o.op = .makeSlice t x y) (hd : o.dst = some d) (hdn : d < n) (ht : q6 P t = some (e, 1, b, z)) (h1z : z.oneCell' = true)
    (hx : evP F x = .u (.int kx (m : Int))) (hy : evP F y = .u (.int ky (m : Int))) (hmax : m ≤ maxLen) (hbytes : b * m ≤ 281474976710656) (hk : K (.ps id ((H id).ver + 1)) (H.set id ⟨(H id).ver + 1, some (.row e 1 m (replicate m (.u z)))⟩)) : PE P W n o F H K := fun V a w hr => by
  obtain ⟨i, hu, hi, hzz, hsz1, rfl, hzs, hpos⟩ := yo ht
  have hx' : a.eval x = .int kx m := by
    have := Rp.eval (P := P) (F := F) (a := a) (Z := W.Z) (H := H) (V := V) (w := w) x fun t _ => hr.slot t
    rw [hx] at this; generalize a.eval x = q at this; cases this; rfl
  have hy' : a.eval y = .int ky m := by
    have := Rp.eval (P := P) (F := F) (a := a) (Z := W.Z) (H := H) (V := V) (w := w) y fun t _ => hr.slot t
    rw [hy] at this; generalize a.eval y = q at this; cases this; rfl
  have h63 : (m : Int) ≤ 9223372036854775807 := by have := hmax; simp [maxLen] at this; omega
  have hb2 : (i.bytes : Int) * (m : Int) ≤ 281474976710656 := by
    have h : ((i.bytes * m : Nat) : Int) ≤ 281474976710656 := by omega
    rwa [Int.natCast_mul] at h
  have hrun := run_make (P := P) w t e i z hu hi hzz kx ky m m (by omega) (Int.le_refl _) hb2 h63
  simp only [Int.toNat_natCast, hsz1, Nat.mul_one] at hrun
  have hex : (execOp a.eval o).run P w = .ok (.value (.slice (some ⟨w.heap.size, 0, none⟩) m m)) (w.alloc (.cells (madeCells z.cells m) e)) := by
    simp [execOp, ho, hx', hy', hrun]
  refine ve hex ⟨_, _, vg V id (.slice (some ⟨w.heap.size, 0, none⟩) m m), hk, ?_⟩
  rw [hd]
  have hb : Below w.heap.size w (w.alloc (.cells (madeCells z.cells m) e)) := (Below.refl _ _).alloc (wb7 _) _
  have hzc : z.cells = #[z] := by cases z <;> first | rfl | simp [Value.oneCell'] at h1z
  have hcells : (madeCells z.cells m).toList = replicate m z := by
    rw [hzc]
    simp only [madeCells, Array.toList_map, Array.toList_range]
    apply wdt
    intro j
    by_cases hj : j < m <;> simp [hj, Nat.mod_one]
  refine hr.newRow (us := replicate m z) hdn hb (fun g hg => by cases hg; exact wb7 _) ⟨by simp, .inr ⟨w.heap.size, m, _, rfl, hr.heap.below.size, heap_alloc_new w _, wb7 _, hmax, by simp [size_madeCells], by rw [hcells]; simp⟩⟩ ?_ ?_
  · have := RpL.us (W := W) (H := H) (V := V) (w := w) (replicate m z)
    simpa using this
  · intro v hv
    rw [List.mem_replicate] at hv
    rw [hv.2]; exact h1z
end
section
variable {P : Program} {W : Env} {n : Nat} {H : PHeap} {F : PFrame}
def zmj (H : PHeap) (k : Nat) : PV → Option (Nat × List PV)
  | .sl k' xs => if k' = k then some (xs.length, xs.flatMap PV.cells) else none
  | .ps id ver =>
    match yh H id ver with
    | some (_, k', m, cs) => if k' = k then some (m, cs) else none
    | none => none
  | .u (.slice _ 0 _) => some (0, [])
  | _ => none
theorem Zy {k : Nat} : ∀ (ys : List PV), (∀ y ∈ ys, y.cells.length = k) → (ys.flatMap PV.cells).length = ys.length * k
  | [], _ => by simp
  | y :: ys, h => by rw [wci, wch, Zy ys (fun z hz => h z (by simp [hz])), h y (by simp), wc1, wc3]; omega
theorem zcz {V : Nm → Value} {w : World} (hr : HRel P W H V w) {k m : Nat} {cs : List PV} {p : PV} {v : Value} (hx : Rp W.Z H V w p v) (h : zmj H k p = some (m, cs)) :
    ∃ ad c, v = .slice ad m c ∧ ((m = 0 ∧ cs = []) ∨ ∃ b news, ad = some b ∧ news.length = m * k ∧ RpL W.Z H V w cs news ∧ ∀ j u, news[j]? = some u → w.cell? (b.add j) = some u) := by
  unfold zmj at h
  split at h
  · rename_i k' xs
    split at h
    · rename_i hk
      subst hk
      cases h
      cases hx with
      | nil k a c => exact ⟨a, c, rfl, .inl ⟨rfl, rfl⟩⟩
      | sl k xs b o c g hu hlen hz hb h1 h2 =>
        have hfl := Zy xs hu
        refine ⟨_, c, rfl, .inr ⟨⟨b, o, none⟩, (range (xs.length * k')).map g, rfl, by simp, ⟨by simp [hfl], fun i p v h3 h4 => ?_⟩, fun j u hu => ?_⟩⟩
        · have hlt := (wb3.1 h3).1
          rw [hfl] at hlt
          simp [hlt] at h4
          rw [← h4]
          exact h2 i p h3
        · rw [yf]
          have hlt : j < xs.length * k' := by have := (wb3.1 hu).1; simpa using this
          simp [hlt] at hu
          rw [← hu]
          have hj : j < (xs.flatMap PV.cells).length := by rw [hfl]; exact hlt
          exact h1 j _ (wb5 hj)
    · cases h
  · rename_i id ver
    split at h
    · rename_i t k' m' cs' hl
      split at h
      · rename_i hk
        subst hk
        cases h
        obtain ⟨hb, hve⟩ := yc hl
        cases hx with
        | ps _ _ _ hvv hh =>
          rw [hh (by rw [hb]; rfl) hve]
          obtain ⟨vals, ho, hR, _⟩ := hr.row id t _ _ _ hb
          rcases ho.2 with ⟨e, rfl⟩ | ⟨g, cap, cur, e, _⟩
          · refine ⟨none, 0, e, .inl ⟨rfl, ?_⟩⟩
            have h1 := ho.1
            have h2 := hR.1
            exact wcm (by omega)
          · refine ⟨_, cap, e, .inr ⟨_, vals, rfl, ho.1, hR, fun j u hu => ho.cells (g := g) (by rw [e]; rfl) j u hu⟩⟩
      · cases h
    · cases h
  · cases h
    cases hx
    exact ⟨_, _, rfl, .inl ⟨rfl, rfl⟩⟩
  · cases h
theorem zdf {w : World} {base : Nat} {t ty e : TypeId} {i : TypeInfo} {z : Value} {k : Nat} (ht : P.underlying t = some (.slice e)) (hi : P.info? e = some i) (hz : i.zero = some z) (hk : i.size = k) (hzs : z.cells.size = k) (hpos : 0 < k)
    {v : Value} {m : Nat} {xs : List Value} (hown : w.ownsRow base e k v m xs) {ad : Option Addr} {m2 c : Nat} {news : List Value} (hs : (m2 = 0 ∧ news = []) ∨ ∃ b, ad = some b ∧ news.length = m2 * k ∧ (∀ j u, news[j]? = some u → w.cell? (b.add j) = some u) ∧ ∀ u ∈ news, u.oneCell' = true)
    (h63 : m + m2 ≤ maxLen) (hbytes : (m + m2) * i.bytes ≤ 140737488355328) (hbase : base ≤ w.heap.size) :
    ∃ v' w', (Builtin.append_ #[t, t] ty #[v, .slice ad m2 c]).run P w = .ok v' w' ∧ w'.ownsRow base e k v' (m + m2) (xs ++ news) ∧ w.grownBy w' v.ownBlock ∧ ∀ g, jv v' = some g → w.heap.size ≤ g ∨ jv v = some g := by
  rcases hs with ⟨rfl, rfl⟩ | ⟨b, rfl, hl, hc, h1⟩
  · refine ⟨v, w, ?_, by simpa using hown, ⟨rfl, rfl, rfl, wb7 _, fun _ _ _ => rfl⟩, fun g hg => .inr hg⟩
    rcases hown.2 with ⟨rfl, rfl⟩ | ⟨g, cap, cur, rfl, _, _, hcap, _⟩
    · cases ad <;> simp [Builtin.append_, run_underlying ht, sizeOf, typeInfo, hi, Builtin.lenOf, Builtin.firstCells, loadCells, loadCellsFrom]
    · cases ad <;> simp [Builtin.append_, run_underlying ht, sizeOf, typeInfo, hi, Builtin.lenOf, Builtin.firstCells, loadCells, loadCellsFrom, hcap, storeCells]
  · obtain ⟨v', w', hr, h2, h3, _⟩ := run_append_own (P := P) w base t ty e i z k i.bytes ht hi hz hk rfl hzs hpos v m xs hown b m2 c news hl hc h1 h63 hbytes hbase
    refine ⟨v', w', hr, h2, h3, fun g hg => ?_⟩
    rcases hown.2 with ⟨rfl, rfl⟩ | ⟨g0, cap, cur, rfl, hbg, hg0, hcap, hcm, hcs, htake⟩
    · have hx : xs = [] := wcm (by simpa using hown.1)
      subst hx
      obtain ⟨v2, w2, hr2, h4, _⟩ := run_append_own (P := P) w w.heap.size t ty e i z k i.bytes ht hi hz hk rfl hzs hpos (.slice none 0 0) 0 [] (World.ownsRow_nil _ _ _ _) b m2 c news hl hc h1 h63 hbytes (wb7 _)
      rw [hr] at hr2
      cases hr2
      left
      refine (h4.lt g ?_).1
      rcases h4.2 with ⟨rfl, _⟩ | ⟨g', cap, cur, rfl, _⟩
      · cases hg
      · exact hg
    · subst hk
      by_cases hroom : m + m2 ≤ cap
      · have hr2 := run_append_room (P := P) w t ty e i ht hi g0 m cap cur hg0 b m2 c news hl hc h1 hroom (by rw [hl, hcs, ← wc3]; exact wdd _ hroom)
        rw [hr] at hr2
        cases hr2
        exact .inr hg
      · have holds : ∀ j u, xs[j]? = some u → w.cell? ((⟨g0, 0, none⟩ : Addr).add j) = some u := hown.cells (g := g0) rfl
        have h63' : ((m + m2 : Nat) : Int) ≤ 9223372036854775807 := by simp only [maxLen] at h63; omega
        have hr2 := run_append_grow (P := P) w t ty e i z ht hi hz ⟨g0, 0, none⟩ m cap xs hown.1 holds b m2 c news hl hc (by omega) h63' (growslice_fits (by omega) hbytes)
        rw [hr] at hr2
        cases hr2
        cases hg
        exact .inl (wb7 _)
theorem Jq {w : World} {base : Nat} {e : TypeId} {k m : Nat} {v : Value} {xs : List Value} (h : w.ownsRow base e k v m xs) : v.ownBlock = jv v := by
  rcases h.2 with ⟨rfl, _⟩ | ⟨g, cap, cur, rfl, _⟩ <;> rfl
theorem PE.append {o : Oper} {s x : Operand} {t e : TypeId} {k b d ver m m2 : Nat} {id : Nm} {z : Value} {cs cs2 : List PV} {K : PV → PHeap → Prop} (ho : o.op = .call { callee := .builtin .append, args := #[s, x], argTypes := #[t, t] }) (hd : o.dst = some d) (hdn : d < n) (ht : q6 P t = some (e, k, b, z))
    (hs : evP F s = .ps id ver) (hl : yh H id ver = some (e, k, m, cs)) (hx : zmj H k (evP F x) = some (m2, cs2)) (hleaf : ∀ p ∈ cs2, yj H p = true) (h63 : m + m2 ≤ maxLen) (hbytes : (m + m2) * b ≤ 140737488355328)
    (hk : K (.ps id (ver + 1)) (H.set id ⟨ver + 1, some (.row e k (m + m2) (cs ++ cs2))⟩)) : PE P W n o F H K := fun V a w hr => by
  obtain ⟨i, hu, hi, hzz, hsz, rfl, hzs, hpos⟩ := yo ht
  obtain ⟨hb, hve⟩ := yc hl
  have hsv : a.eval s = V id := by
    have := Rp.eval (P := P) (F := F) (a := a) (Z := W.Z) (H := H) (V := V) (w := w) s fun t _ => hr.slot t
    rw [hs] at this
    generalize a.eval s = q at this
    cases this with
    | ps _ _ _ hvv hh => exact hh (by rw [hb]; rfl) hve
  obtain ⟨vals, hown, hR, h1⟩ := hr.heap.row id e k m cs hb
  obtain ⟨ad, c, hxv, hsrc⟩ := zcz hr.heap (Rp.eval (P := P) (F := F) (a := a) x fun t _ => hr.slot t) hx
  have hsrc2 : ∃ news, RpL W.Z H V w cs2 news ∧ (∀ u ∈ news, u.oneCell' = true) ∧ ((m2 = 0 ∧ news = []) ∨ ∃ b, ad = some b ∧ news.length = m2 * k ∧ (∀ j u, news[j]? = some u → w.cell? (b.add j) = some u) ∧ ∀ u ∈ news, u.oneCell' = true) := by
    rcases hsrc with ⟨rfl, rfl⟩ | ⟨b, news, e1, e2, hRn, e4⟩
    · exact ⟨[], ⟨rfl, fun i p v h => by simp at h⟩, (fun u hu => by cases hu), .inl ⟨rfl, rfl⟩⟩
    · have hone : ∀ u ∈ news, u.oneCell' = true := fun u hu => by
        obtain ⟨j, hj, rfl⟩ := wem hu
        have hj2 : j < cs2.length := by rw [hRn.1]; exact hj
        exact (hRn.2 j _ _ (wb5 hj2) (wb5 hj)).leaf hr.heap (hleaf _ (wei hj2))
      exact ⟨news, hRn, hone, .inr ⟨b, e1, e2, e4, hone⟩⟩
  obtain ⟨news, hRn, hone, hs2⟩ := hsrc2
  obtain ⟨v', w', hrun, hown', hgr, hblk⟩ := zdf (P := P) (ty := o.type) (c := c) hu hi hzz hsz hzs hpos hown hs2 h63 hbytes hr.heap.below.size
  have hex : (execOp a.eval o).run P w = .ok (.value v') w' := by
    unfold execOp
    simp only [ho, resolve, invoke, builtin, Sem.run_bind, Sem.run_pure, Result.andThen_ok, wej, wcj, wdh, hsv, hxv, hrun]
  refine ve hex ⟨_, _, vg V id v', hk, ?_⟩
  have hob := Jq hown
  have hturn : Turn W H V w id ⟨ver + 1, some (.row e k (m + m2) (cs ++ cs2))⟩ v' w' := by
    refine ⟨hr.heap.below.grown hgr hr.heap.below.size fun kk hk => ?_, hgr.size, fun bb hlt hn => hgr.block bb hlt fun e' => hn ⟨by rw [hb]; rfl, by rw [← hob]; exact e'.symm⟩, fun g hg => ?_, .inl (by show (H id).ver < ver + 1; omega)⟩
    · exact (hown.lt kk hk).1
    · rcases hblk g hg with h | h
      · exact .inl h
      · exact .inr ⟨by rw [hb]; rfl, h⟩
  rw [hd]
  refine hr.turn hturn (fun bd hbd => ?_) (some d) (fun t ht => by cases ht; exact hdn) ?_
  · cases hbd
    refine ⟨vals ++ news, hown', ⟨by simp [hR.1, hRn.1], fun i p v h3 h4 => ?_⟩, fun u hu => ?_⟩
    · by_cases hi' : i < cs.length
      · rw [wcc hi'] at h3
        rw [wcc (by rw [← hR.1]; exact hi')] at h4
        exact hturn.rp (hR.2 i p v h3 h4)
      · rw [wce (by omega)] at h3
        rw [wce (by rw [← hR.1]; omega), ← hR.1] at h4
        exact hturn.rp (hRn.2 _ p v h3 h4)
    · rcases wcr.1 hu with hu | hu
      · exact h1 u hu
      · exact hone u hu
  · refine .ps _ _ _ ?_ fun _ _ => ?_
    · simp [PHeap.set]
    · simp [vg]
theorem waq {o : Oper} {s x : Operand} {t e : TypeId} {k b d m2 : Nat} {id : Nm} {z : Value} {cs2 : List PV} {K : PV → PHeap → Prop} (ho : o.op = .call { callee := .builtin .append, args := #[s, x], argTypes := #[t, t] }) (hd : o.dst = some d) (hdn : d < n) (ht : q6 P t = some (e, k, b, z))
    (hs : evP F s = .u (.slice none 0 0)) (hx : zmj H k (evP F x) = some (m2, cs2)) (hleaf : ∀ p ∈ cs2, yj H p = true) (h63 : m2 ≤ maxLen) (hbytes : m2 * b ≤ 140737488355328)
    (hk : K (.ps id ((H id).ver + 1)) (H.set id ⟨(H id).ver + 1, some (.row e k m2 cs2)⟩)) : PE P W n o F H K := fun V a w hr => by
  obtain ⟨i, hu, hi, hzz, hsz, rfl, hzs, hpos⟩ := yo ht
  have hsv : a.eval s = .slice none 0 0 := by
    have := Rp.eval (P := P) (F := F) (a := a) (Z := W.Z) (H := H) (V := V) (w := w) s fun t _ => hr.slot t
    rw [hs] at this
    generalize a.eval s = q at this
    cases this; rfl
  obtain ⟨ad, c, hxv, hsrc⟩ := zcz hr.heap (Rp.eval (P := P) (F := F) (a := a) x fun t _ => hr.slot t) hx
  have hsrc2 : ∃ news, RpL W.Z H V w cs2 news ∧ (∀ u ∈ news, u.oneCell' = true) ∧ ((m2 = 0 ∧ news = []) ∨ ∃ b, ad = some b ∧ news.length = m2 * k ∧ (∀ j u, news[j]? = some u → w.cell? (b.add j) = some u) ∧ ∀ u ∈ news, u.oneCell' = true) := by
    rcases hsrc with ⟨rfl, rfl⟩ | ⟨b, news, e1, e2, hRn, e4⟩
    · exact ⟨[], ⟨rfl, fun i p v h => by simp at h⟩, (fun u hu => by cases hu), .inl ⟨rfl, rfl⟩⟩
    · have hone : ∀ u ∈ news, u.oneCell' = true := fun u hu => by
        obtain ⟨j, hj, rfl⟩ := wem hu
        have hj2 : j < cs2.length := by rw [hRn.1]; exact hj
        exact (hRn.2 j _ _ (wb5 hj2) (wb5 hj)).leaf hr.heap (hleaf _ (wei hj2))
      exact ⟨news, hRn, hone, .inr ⟨b, e1, e2, e4, hone⟩⟩
  obtain ⟨news, hRn, hone, hs2⟩ := hsrc2
  obtain ⟨v', w', hrun, hown', hgr, hblk⟩ := zdf (P := P) (ty := o.type) (c := c) hu hi hzz hsz hzs hpos (World.ownsRow_nil w W.w.heap.size e k) hs2 (by omega) (by simpa using hbytes) hr.heap.below.size
  have hex : (execOp a.eval o).run P w = .ok (.value v') w' := by
    unfold execOp
    simp only [ho, resolve, invoke, builtin, Sem.run_bind, Sem.run_pure, Result.andThen_ok, wej, wcj, wdh, hsv, hxv, hrun]
  refine ve hex ⟨_, _, vg V id v', hk, ?_⟩
  rw [hd]
  rw [wcx, wc2] at hown'
  have hb : Below w.heap.size w w' := ⟨hgr.os, hgr.tape, hgr.output, hgr.size, fun k hk => hgr.block k hk (by simp [Value.ownBlock])⟩
  exact hr.newRow hdn hb (fun g hg => (hblk g hg).resolve_right (by simp [jv])) hown' hRn hone
def PL (P : Program) (W : Env) (n : Nat) (ops : Array Oper) (l : List Oper) (F : PFrame) (H : PHeap) (K : PFrame → PHeap → Prop) : Prop :=
  ∀ (V : Nm → Value) (a : Act) (w : World) (Q : Exit → Act → World → Prop), Rel P W n F H V a w → (∀ F' H' V' a' w', K F' H' → Rel P W n F' H' V' a' w' → Q .normal a' w') → wpList P ops Q l a w
theorem PL.nil {ops : Array Oper} {K : PFrame → PHeap → Prop} (h : K F H) : PL P W n ops [] F H K := fun V a w Q hr hQ => wpList_nil (hQ F H V a w h hr)
theorem zv7 {o : Oper} {a : Act} {w : World} {K K' : Act → World → Prop} {Q : Exit → Act → World → Prop} (h : o.wp P a w K (fun _ _ _ => False)) (hk : ∀ a w, K a w → K' a w) : o.wp P a w K' Q := by
  unfold Oper.wp at *
  generalize (execOp a.eval o).run P w = r at *
  cases r with
  | ok nx w' =>
    cases nx <;> simp only [Oper.upon] at h ⊢
    case value u => exact hk _ _ h
    case skip => exact hk _ _ h
    case defer d => exact hk _ _ h
    case enter f args =>
      refine h.mono fun e w'' he => ?_
      cases e with
      | returned v => exact hk _ _ he
      | panicked c => exact he.elim
      | outgrown => obtain ⟨_, _, hf⟩ := he; exact hf.elim
    case row row args => exact h.mono fun v w'' he => hk _ _ he
  | halt x w' => cases x <;> simp only [Oper.upon] at h
theorem PL.cons {ops : Array Oper} {o : Oper} {l : List Oper} {K : PFrame → PHeap → Prop} (hw : zu ops o F = some true) (h : PE P W n o F H fun p H' => PL P W n ops l (F.put o.dst p) H' K) : PL P W n ops (o :: l) F H K := fun V a w Q hr hQ => by
  unfold wpList
  rw [Vv hw hr.slot]
  simp only [if_true]
  exact .inl (zv7 (h V a w hr) fun a' w' ⟨p, H', V', hk, hr'⟩ => hk V' a' w' Q hr' hQ)
theorem PL.skip {ops : Array Oper} {o : Oper} {l : List Oper} {K : PFrame → PHeap → Prop} (hw : zu ops o F = some false) (hd : Jc n o) (h : PL P W n ops l (F.put o.dst (.u undef)) H K) : PL P W n ops (o :: l) F H K := fun V a w Q hr hQ => by
  unfold wpList
  rw [Vv hw hr.slot]
  simp only [wdi, if_false]
  exact h V _ w Q (hr.put (Below.refl _ _) o.dst hd (.u _)) hQ
def PC (P : Program) (W : Env) (n : Nat) (c : Code) (F : PFrame) (H : PHeap) (Q : Exit → PFrame → PHeap → Prop) : Prop :=
  ∀ (V : Nm → Value) (a : Act) (w : World) (Q' : Exit → Act → World → Prop), Rel P W n F H V a w → (∀ e F' H' V' a' w', Q e F' H' → Rel P W n F' H' V' a' w' → Q' e a' w') → c.wp P Q' a w
def z44 (K : PFrame → PHeap → Prop) (Q : Exit → PFrame → PHeap → Prop) : Exit → PFrame → PHeap → Prop
  | .normal, F, H => K F H
  | e, F, H => Q e F H
def zmd (id : Nat) (Q : Exit → PFrame → PHeap → Prop) : Exit → PFrame → PHeap → Prop
  | .exit id', F, H => if id' = id then Q .normal F H else Q (.exit id') F H
  | e, F, H => Q e F H
section
variable {Q : Exit → PFrame → PHeap → Prop}
theorem PC.skip (h : Q .normal F H) : PC P W n .skip F H Q := fun V a w Q' hr hQ => wp_skip (hQ _ _ _ _ _ _ h hr)
theorem PC.ret (h : Q .ret F H) : PC P W n .ret F H Q := fun V a w Q' hr hQ => wp_ret (hQ _ _ _ _ _ _ h hr)
theorem PC.exit {id : Nat} (h : Q (.exit id) F H) : PC P W n (.exit id) F H Q := fun V a w Q' hr hQ => wp_exit (hQ _ _ _ _ _ _ h hr)
theorem PC.seq {x y : Code} (h : ∀ K : PFrame → PHeap → Prop, (∀ F H, PC P W n y F H Q → K F H) → PC P W n x F H (z44 K Q)) : PC P W n (.seq x y) F H Q := fun V a w Q' hr hQ => by
  refine wp_seq (h (fun F H => PC P W n y F H Q) (fun _ _ h => h) V a w _ hr fun e F' H' V' a' w' hq hr' => ?_)
  cases e with
  | normal => exact hq V' a' w' Q' hr' hQ
  | _ => exact hQ _ _ _ _ _ _ hq hr'
theorem PC.cond {c : Operand} {x y : Code} {t : Bool} (hc : evP F c = .u (.bool t)) (ht : t = true → PC P W n x F H Q) (hf : t = false → PC P W n y F H Q) : PC P W n (.cond c x y) F H Q := fun V a w Q' hr hQ => by
  have h1 := Rp.eval (P := P) (F := F) (a := a) (Z := W.Z) (H := H) (V := V) (w := w) c fun t _ => hr.slot t
  rw [hc] at h1
  have h2 : a.eval c = .bool t := by generalize a.eval c = q at h1; cases h1; rfl
  exact wp_cond_split h2 (fun e => ht e V a w Q' hr hQ) (fun e => hf e V a w Q' hr hQ)
theorem PC.block {id : Nat} {c : Code} (h : PC P W n c F H (zmd id Q)) : PC P W n (.block id c) F H Q := fun V a w Q' hr hQ => by
  refine wp_block (h V a w _ hr fun e F' H' V' a' w' hq hr' => ?_)
  cases e with
  | exit id' =>
    simp only [zmd] at hq
    simp only [Exit.inBlock]
    by_cases e : id' = id
    · rw [if_pos e] at hq ⊢; exact hQ _ _ _ _ _ _ hq hr'
    · rw [if_neg e] at hq ⊢; exact hQ _ _ _ _ _ _ hq hr'
  | _ => exact hQ _ _ _ _ _ _ hq hr'
theorem z1l {c : Code} {Q : Exit → Act → World → Prop} (I : Nat → Act → World → Prop) (round : ∀ m a w, I m a w → c.wp P (Exit.then (fun a' w' => ∃ m', m' < m ∧ I m' a' w') Q) a w) {m : Nat} {a : Act} {w : World} (h : I m a w) : (Code.loop c).wp P Q a w := by
  intro b k cs
  have key : ∀ m a w, I m a w → ∃ e a' w', Q e a' w' ∧ Arrives P (lone (b.at a (.code c :: .inLoop c :: k)) cs w) b k cs e a' w' := by
    intro m
    induction m using Nat.strongRecOn with
    | _ m ih =>
      intro a w hI
      obtain ⟨e, a₁, w₁, hq, harr⟩ := round m a w hI b (.inLoop c :: k) cs
      cases e with
      | normal =>
        obtain ⟨m', hlt, hI'⟩ := hq
        obtain ⟨e₂, a₂, w₂, hq₂, harr₂⟩ := ih m' hlt a₁ w₁ hI'
        exact ⟨e₂, a₂, w₂, hq₂, .of_steps (Steps.trans harr (.one step_inLoop)) harr₂⟩
      | exit id => exact ⟨_, a₁, w₁, hq, .pass (x := .inLoop c) rfl (fun _ _ => .inl (by simp)) harr⟩
      | goto l => exact ⟨_, a₁, w₁, hq, .pass (x := .inLoop c) rfl (fun _ _ => .inl (by simp)) harr⟩
      | ret => exact ⟨_, a₁, w₁, hq, .pass (x := .inLoop c) rfl (fun _ _ => .inl (by simp)) harr⟩
      | panic ch => exact ⟨_, a₁, w₁, hq, .pass (x := .inLoop c) rfl (fun _ _ => .inl (by simp)) harr⟩
      | outgrown => exact ⟨_, a₁, w₁, hq, .pass (x := .inLoop c) rfl (fun _ _ => .inl (by simp)) harr⟩
  obtain ⟨e, a', w', hq, harr⟩ := key m a w h
  exact ⟨e, a', w', hq, .of_steps (.one step_loop) harr⟩
theorem PC.loop {c : Code} (I : Nat → PFrame → PHeap → Prop) {m : Nat} (h0 : I m F H) (round : ∀ m F H, I m F H → PC P W n c F H (z44 (fun F' H' => ∃ m', m' < m ∧ I m' F' H') Q)) : PC P W n (.loop c) F H Q := fun V a w Q' hr hQ => by
  refine z1l (fun m a w => ∃ F H V, I m F H ∧ Rel P W n F H V a w) (fun m a w hI => ?_) ⟨F, H, V, h0, hr⟩
  obtain ⟨F, H, V, hI, hr⟩ := hI
  refine round m F H hI V a w _ hr fun e F' H' V' a' w' hq hr' => ?_
  cases e with
  | normal =>
    obtain ⟨m', hlt, h⟩ := hq
    exact ⟨m', hlt, F', H', V', h, hr'⟩
  | _ => exact hQ _ _ _ _ _ _ hq hr'
theorem PC.region {id : Nat} {l : List Oper} (h : PL P W n l.toArray l F H (Q .normal)) : PC P W n (.region id l.toArray false) F H Q := fun V a w Q' hr hQ => wp_region_lit (h V a w Q' hr fun F' H' V' a' w' hk hr' => hQ _ _ _ _ _ _ hk hr')
theorem PC.mono {c : Code} {Q' : Exit → PFrame → PHeap → Prop} (h : PC P W n c F H Q) (hq : ∀ e F H, Q e F H → Q' e F H) : PC P W n c F H Q' := fun V a w Q'' hr hQ => h V a w Q'' hr fun e F' H' V' a' w' hk hr' => hQ e F' H' V' a' w' (hq _ _ _ hk) hr'
end
def zcd (P : Program) (H : PHeap) (F : PFrame) : ResultVar → Option PV
  | .tmp t => some (F t)
  | .cell a t => Qq P H t (F a)
def zvf (P : Program) (fn : Func) (F : PFrame) (H : PHeap) : Option PV :=
  match fn.results.toList with
  | [r] => zcd P H F r
  | l => (l.mapM (zcd P H F)).map .tup
theorem zlm {V : Nm → Value} {a : Act} {w : World} (hr : Rel P W n F H V a w) (r : ResultVar) {p : PV} (h : zcd P H F r = some p) :
    ∃ v, ((match r with | .tmp t => pure (a.tmps.getD t undef) | .cell x t => do loadVar t (← asAddr (a.tmps.getD x undef))) : Sem Value).run P w = .ok v w ∧ Rp W.Z H V w p v := by
  cases r with
  | tmp t => cases h; exact ⟨_, rfl, hr.slot t⟩
  | cell x t =>
    obtain ⟨u, hu, hp⟩ := zit hr.heap (hr.slot x) h
    refine ⟨u, ?_, hp⟩
    show (do loadVar t (← asAddr (a.tmps.getD x undef)) : Sem Value).run P w = .ok u w
    generalize a.tmps.getD x undef = q at hu ⊢
    cases q with
    | pointer ad =>
      cases ad with
      | none => simp [Instr.loadAt, Instr.sureAddr] at hu
      | some ad => simpa [Instr.loadAt, Instr.sureAddr, asAddr] using hu
    | _ => simp [Instr.loadAt, Instr.sureAddr] at hu
theorem zld {V : Nm → Value} {a : Act} {w : World} (hr : Rel P W n F H V a w) : ∀ (l : List ResultVar) (ps : List PV), l.mapM (zcd P H F) = some ps →
    ∃ vs, (l.mapM fun r => (match r with | .tmp t => pure (a.tmps.getD t undef) | .cell x t => do loadVar t (← asAddr (a.tmps.getD x undef)) : Sem Value)).run P w = .ok vs w ∧ RpL W.Z H V w ps vs
  | [], ps, h => by simp at h; subst h; exact ⟨[], by simp, rfl, fun i p v h => by simp at h⟩
  | r :: l, ps, h => by
    simp only [wds, bind_pure_comp, Option.bind_eq_bind] at h
    cases h1 : zcd P H F r with
    | none => rw [h1] at h; cases h
    | some p =>
      cases h2 : l.mapM (zcd P H F) with
      | none => rw [h1, h2] at h; cases h
      | some ps' =>
        rw [h1, h2] at h
        simp at h
        subst h
        obtain ⟨v, hv, hp⟩ := zlm hr r h1
        obtain ⟨vs, hvs, hps⟩ := zld hr l ps' h2
        refine ⟨v :: vs, ?_, by simp [hps.1], fun i p' v' h3 h4 => ?_⟩
        · rw [wds, Sem.run_bind, hv]
          simp only [Result.andThen_ok, Sem.run_bind, hvs, Sem.run_pure]
        · cases i with
          | zero => simp at h3 h4; subst h3 h4; exact hp
          | succ i => exact hps.2 i p' v' (by simpa using h3) (by simpa using h4)
theorem zlc {V : Nm → Value} {a : Act} {w : World} (hr : Rel P W n F H V a w) {fn : Func} {p : PV} (h : zvf P fn F H = some p) : ∃ v, (results fn a.tmps).run P w = .ok v w ∧ Rp W.Z H V w p v := by
  have arrL : ∀ vs : List Value, (fn.results.toList.mapM fun r => (match r with | .tmp t => pure (a.tmps.getD t undef) | .cell x t => do loadVar t (← asAddr (a.tmps.getD x undef)) : Sem Value)).run P w = .ok vs w →
      (results fn a.tmps).run P w = .ok (if h : vs.toArray.size = 1 then vs.toArray[0] else .tuple vs.toArray) w := fun vs hvs => by
    unfold results
    rw [Sem.run_bind, Array.mapM_eq_mapM_toList]
    simp only [Sem.run_map]
    erw [hvs]
    rfl
  unfold zvf at h
  split at h
  · rename_i r hl
    obtain ⟨v, hv, hp⟩ := zlm hr r h
    have h1 := arrL [v] (by rw [hl, wds, Sem.run_bind, hv]; simp)
    exact ⟨v, by simpa using h1, hp⟩
  · rename_i hne
    obtain ⟨ps, hps, rfl⟩ := wca.1 h
    obtain ⟨vs, hvs, hR⟩ := zld hr _ ps hps
    have h1 := arrL vs hvs
    have hlen : ¬ vs.toArray.size = 1 := fun e => by
      have e1 : ps.length = 1 := by rw [hR.1]; simpa using e
      have e2 : fn.results.toList.length = ps.length := by
        have : ∀ (l : List ResultVar) (ps : List PV), l.mapM (zcd P H F) = some ps → l.length = ps.length := by
          intro l
          induction l with
          | nil => intro ps h; simp at h; subst h; rfl
          | cons r l ih =>
            intro ps h
            simp only [wds, bind_pure_comp, Option.bind_eq_bind] at h
            cases h1 : zcd P H F r with
            | none => rw [h1] at h; cases h
            | some p =>
              cases h2 : l.mapM (zcd P H F) with
              | none => rw [h1, h2] at h; cases h
              | some ps' => rw [h1, h2] at h; simp at h; subst h; simp [ih ps' h2]
        exact this _ _ hps
      rw [e1] at e2
      obtain ⟨r, hr⟩ := List.length_eq_one_iff.1 e2
      exact hne r hr
    rw [dif_neg hlen] at h1
    exact ⟨_, h1, .tup _ _ (by simpa using hR.1) fun i p v h3 h4 => hR.2 i p v h3 (by simpa using h4)⟩
def zda (aq9 : List PV) : PFrame := fun t => (aq9[t]?).getD (.u undef)
theorem Rel.enter {Z : ZM} {w : World} {aq9 : List PV} {vs : List Value} (hgw : GW w) (hz : ∀ b, Z b → b < w.heap.size) (hzm : Z.m ≤ w.heap.size) (hR : RpL Z waa V0 w aq9 vs) {m : Nat} (hm : aq9.length ≤ m) :
    Rel P { w := w, Z := Z, hm := hzm, gw := hgw } m (zda aq9) waa V0 { tmps := vs.toArray ++ Array.replicate (m - vs.toArray.size) undef, defers := [] } w := by
  have hl := hR.1
  refine ⟨wax (Below.refl _ _) (fun i => .unk _) hz, by simp; omega, rfl, fun t => ?_⟩
  unfold zda
  by_cases ht : t < aq9.length
  · have htv : t < vs.length := by omega
    have := hR.2 t _ _ (wb5 ht) (wb5 htv)
    rw [wb5 ht]
    simpa [wcy, Array.getElem?_append, htv] using this
  · have htv : ¬ t < vs.length := by omega
    rw [wdn (by omega)]
    have : (vs.toArray ++ Array.replicate (m - vs.toArray.size) undef).getD t undef = undef := by
      rw [wcy, Array.getElem?_append, if_neg (by simpa using htv), Array.getElem?_replicate]
      split <;> rfl
    simp only [this, Option.getD_none]
    exact .u _
def Env.push (W : Env) (F : PFrame) (a : Act) : Env :=
  { W with G := fun i => if i % 2 = 0 then F (i / 2) else W.G (i / 2), gv := fun i => if i % 2 = 0 then a.tmps.getD (i / 2) undef else W.gv (i / 2) }
end
section
variable {P : Program} {n : Nat} {H : PHeap} {F : PFrame} {d ty : Nat} {pos : String} {af : Array Edge} {g : Option (Nat × Bool)}
variable {t : Nat} {x y : Operand} {k : IntKind} {a b : Int}
theorem zwy : ya P .add t x y (.u (.int k a)) (.u (.int k b)) = some (.u (.int k (k.wrap (a + b)))) := by simp [ya, PV.val2, eqGuard, binOp, qh, qj, Op.intArith, ofV]
theorem zyj : ya P .sub t x y (.u (.int k a)) (.u (.int k b)) = some (.u (.int k (k.wrap (a - b)))) := by simp [ya, PV.val2, eqGuard, binOp, qh, qj, Op.intArith, ofV]
theorem zx9 : ya P .mul t x y (.u (.int k a)) (.u (.int k b)) = some (.u (.int k (k.wrap (a * b)))) := by simp [ya, PV.val2, eqGuard, binOp, qh, qj, Op.intArith, ofV]
@[go_sem] theorem zzq : ya P .eql t x y (.u (.int k a)) (.u (.int k b)) = some (.u (.bool (decide (a = b)))) := by simp [ya, PV.val2, eqGuard, binOp, qh, qj, Op.intCmp, ofV]; rfl
@[go_sem] theorem z1x : ya P .neq t x y (.u (.int k a)) (.u (.int k b)) = some (.u (.bool (decide (¬ a = b)))) := by simp [ya, PV.val2, eqGuard, binOp, qh, qj, Op.intCmp, ofV]; rfl
@[go_sem] theorem zzd : ya P .lss t x y (.u (.int k a)) (.u (.int k b)) = some (.u (.bool (decide (a < b)))) := by simp [ya, PV.val2, eqGuard, binOp, qh, qj, Op.intCmp, ofV]
@[go_sem] theorem z0z : ya P .leq t x y (.u (.int k a)) (.u (.int k b)) = some (.u (.bool (decide (a ≤ b)))) := by simp [ya, PV.val2, eqGuard, binOp, qh, qj, Op.intCmp, ofV]
@[go_sem] theorem zyt : ya P .gtr t x y (.u (.int k a)) (.u (.int k b)) = some (.u (.bool (decide (b < a)))) := by simp [ya, PV.val2, eqGuard, binOp, qh, qj, Op.intCmp, ofV]
@[go_sem] theorem zzg : ya P .geq t x y (.u (.int k a)) (.u (.int k b)) = some (.u (.bool (decide (b ≤ a)))) := by simp [ya, PV.val2, eqGuard, binOp, qh, qj, Op.intCmp, ofV]
@[go_sem] theorem z2t (b : Bool) : unP P .not (.u (.bool b)) = some (.u (.bool (!b))) := by simp [unP, PV.val2, Op.unary, qj, ofV]
@[go_sem] theorem zxm (s u : ByteArray) : ya P .eql t x y (.u (.string s)) (.u (.string u)) = some (.u (.bool (s.toList == u.toList))) := by simp [ya, PV.val2, eqGuard, binOp, qh, qj, Op.stringOp, ofV]
@[go_sem] theorem zxc (s u : ByteArray) : ya P .neq t x y (.u (.string s)) (.u (.string u)) = some (.u (.bool (!(s.toList == u.toList)))) := by simp [ya, PV.val2, eqGuard, binOp, qh, qj, Op.stringOp, ofV]
end
abbrev I (z : Int) : PV := .u (.int .i64 z)
section
variable {P : Program} {W : Env} {n : Nat} {H : PHeap} {F : PFrame} {ops : Array Oper} {o : Oper} {l : List Oper}
theorem zih (f : FuncId) (args : Array Operand) (ts : Array TypeId) : Q8 F ⟨.value (.func f), args, ts⟩ = some (f, args.toList.map (evP F)) := by simp [Q8, evP]
end
section
variable {P : Program} {W : Env} {n : Nat} {H : PHeap} {F : PFrame}
theorem wbw {o : Oper} {t e : TypeId} {x y : Operand} {d ver k m j : Nat} {id : Nm} {kd : IntKind} {cs : List PV} {K : PV → PHeap → Prop} (ho : o.op = .slice t x none (some y) none) (hd : o.dst = some d) (hdn : d < n) (ht : esz P t = some k) (hx : evP F x = .ps id ver) (hl : yh H id ver = some (e, k, m, cs)) (hy : evP F y = .u (.int kd (j : Int))) (hj : j ≤ m)
    (hk : K (.ps id (ver + 1)) (H.set id ⟨ver + 1, some (.row e k j (cs.take (j * k)))⟩)) : PE P W n o F H K := fun V a w hr => by
  obtain ⟨e', ti, hu, hti, rfl⟩ := Ze ht
  obtain ⟨hb, hve⟩ := yc hl
  have hxv : a.eval x = V id := by
    have := Rp.eval (P := P) (F := F) (a := a) (Z := W.Z) (H := H) (V := V) (w := w) x fun t _ => hr.slot t
    rw [hx] at this
    generalize a.eval x = q at this
    cases this with
    | ps _ _ _ hvv hh => exact hh (by rw [hb]; rfl) hve
  have hyv : a.eval y = .int kd j := by
    have := Rp.eval (P := P) (F := F) (a := a) (Z := W.Z) (H := H) (V := V) (w := w) y fun t _ => hr.slot t
    rw [hy] at this; generalize a.eval y = q at this; cases this; rfl
  obtain ⟨vals, hown, hR, h1⟩ := hr.heap.row id e _ m cs hb
  have key : ∃ v', (execOp a.eval o).run P w = .ok (.value v') w ∧ w.ownsRow W.w.heap.size e ti.size v' j (vals.take (j * ti.size)) ∧ jv v' = jv (V id) := by
    have hlen : (vals.take (j * ti.size)).length = j * ti.size := by
      rw [wdf, hown.1]
      exact Nat.min_eq_left (wdd _ hj)
    rcases hown.2 with ⟨e1, rfl⟩ | ⟨g, cap, cur, e1, hg, hh, hcap, hmax, hsz, htake⟩
    · have hj0 : j = 0 := by omega
      subst hj0
      refine ⟨.slice none 0 0, ?_, ⟨hlen, .inl ⟨rfl, rfl⟩⟩, by rw [e1]⟩
      have hbd := vu (P := P) (w := w) (isS := true) (len := 0) (cap := 0) (l := 0) (h := 0) (lo := none) (hi := some (.int kd (0 : Nat))) (.inl ⟨rfl, rfl⟩) (.inr ⟨kd, _, rfl, by simp, by simp⟩) (wb7 _) (wb7 _)
      simp only [execOp, ho]
      simp [hxv, hyv, e1, Instr.sliceAt, Instr.slice, run_underlying hu, hbd, sizeOf, typeInfo, hti] at hbd ⊢
    · refine ⟨.slice (some ⟨g, 0, none⟩) j cap, ?_, ⟨hlen, .inr ⟨g, cap, cur, rfl, hg, hh, by omega, hmax, hsz, ?_⟩⟩, by rw [e1]; rfl⟩
      · have hbd := vu (P := P) (w := w) (isS := true) (len := m) (cap := cap) (l := 0) (h := j) (lo := none) (hi := some (.int kd (j : Nat))) (.inl ⟨rfl, rfl⟩) (.inr ⟨kd, _, rfl, by simp, by simp⟩) (wdq _) (by omega)
        simp only [execOp, ho]
        simp [hxv, hyv, e1, Instr.sliceAt, Instr.slice, run_underlying hu, hbd, sizeOf, typeInfo, hti]
        by_cases hc : cap = 0
        · simp [hc]
        · simp [hc, yf]
      · rw [← htake, List.take_take, Nat.min_eq_left (wdd _ hj)]
  obtain ⟨v', hrun, hown', hblk⟩ := key
  have hturn : Turn W H V w id ⟨ver + 1, some (.row e ti.size j (cs.take (j * ti.size)))⟩ v' w := by
    refine ⟨hr.heap.below, wb7 _, fun _ _ _ => rfl, fun g hg => .inr ⟨by rw [hb]; rfl, by rw [← hblk]; exact hg⟩, .inl (by show (H id).ver < ver + 1; omega)⟩
  refine ve hrun ⟨_, _, vg V id v', hk, ?_⟩
  rw [hd]
  refine hr.turn hturn (fun bd hbd => ?_) (some d) (fun t ht => by cases ht; exact hdn) ?_
  · cases hbd
    refine ⟨_, hown', ⟨by simp [hR.1], fun i p v h3 h4 => ?_⟩, fun u hu' => h1 u (wdx hu')⟩
    rw [wc6] at h3 h4
    split at h3
    · rename_i hi
      rw [if_pos hi] at h4
      exact hturn.rp (hR.2 i p v h3 h4)
    · cases h3
  · refine .ps _ _ _ ?_ fun _ _ => ?_
    · simp [PHeap.set]
    · simp [vg]
end
def zfb (P : Program) (t : TypeId) : Option IntKind := match P.underlying t with | some (.int k) => some k | _ => none
section
variable {P : Program} {t : TypeId} {x y : Operand} {k : IntKind} {a b : Int}
theorem zeq {t : TypeId} (h : zfb P t = some k) : P.underlying t = some (.int k) := by
  unfold zfb at h
  split at h
  · cases h; assumption
  · cases h
@[go_sem] theorem zyf {s d : TypeId} {k k' : IntKind} {n : Int} (hs : (zfb P s).isSome = true) (hd : zfb P d = some k) : zwi P s d (.u (.int k' n)) = some (.u (.int k (k.wrap n))) := by
  obtain ⟨ks, hks⟩ := wcp.1 hs
  have : (convert s d (.int k' n)).val P = some (.int k (k.wrap n)) := by
    have e1 : (underlying s).val P = some (.int ks) := by simp [underlying, program, qh, Sem.val, zeq hks]; rfl
    have e2 : (underlying d).val P = some (.int k) := by simp [underlying, program, qh, Sem.val, zeq hd]; rfl
    simp only [convert, qh, e1, e2, wc4, Conv.intToInt, qj]
  simp [zwi, PV.val2, this, ofV]
end
section
variable {P : Program} {W : Env} {n : Nat} {H : PHeap} {F : PFrame} {ops : Array Oper} {o : Oper} {l : List Oper} {K : PFrame → PHeap → Prop}
theorem Rp.forget {Z : ZM} {V : Nm → Value} {w : World} {t : TypeId} {k : Nat} {xs : List PV} {v : Value} (h : Rp Z H V w (.fr t k xs) v) : Rp Z H V w (.sl k xs) v := by
  cases h with
  | fr t k xs v vals hu ho hz h1 h2 =>
    have hlen := ho.1
    rcases ho.2 with ⟨e, hn0⟩ | ⟨g, cap, cur, e, hg, hh2, hcap, _, _, htake⟩
    · have : xs = [] := wcm hn0
      rw [e, this]
      exact .nil _ _ _
    · have hfl : (xs.flatMap PV.cells).length = vals.length := by rw [Zy xs hu, hlen]
      have hcell : ∀ (i : Nat) (q : PV), (xs.flatMap PV.cells)[i]? = some q → ∃ u, vals[i]? = some u ∧ w.cell? ⟨g, 0 + i, none⟩ = some u ∧ Rp Z H V w q u := fun i q hq => by
        have hlt := (wb3.1 hq).1
        have hi1 : i < vals.length := by omega
        refine ⟨vals[i], wb5 hi1, ?_, h2 i _ _ hq (wb5 hi1)⟩
        have := ho.cells (g := g) (by rw [e]; rfl) i _ (wb5 hi1)
        rwa [yf] at this
      have := Rp.sl (Z := Z) (H := H) (V := V) (w := w) k xs g 0 cap (fun i => (vals[i]?).getD undef) hu hcap (hz g (by rw [e]; rfl)) (wcg.1 hh2).1 (fun i q hq => by
        obtain ⟨u, h1, h2, _⟩ := hcell i q hq
        rw [h1]; exact h2) (fun i q hq => by
        obtain ⟨u, h1, _, h3⟩ := hcell i q hq
        simp only [h1, wct]; exact h3)
      rw [e]
      exact this
theorem wbt {Z : ZM} {V : Nm → Value} {w : World} {t : TypeId} {k : Nat} : Rp Z H V w (.fr t k []) (.slice none 0 0) :=
  .fr t k [] _ [] (fun y hy => by cases hy) (World.ownsRow_nil _ _ _ _) (fun b hb => by cases hb) (fun u hu => by cases hu) (fun i p u h => by simp at h)
theorem wbf {t : TypeId} {k : Nat} : View H (.u (.slice none 0 0)) (.fr t k []) := fun P W V w hr v hv => by cases hv; exact wbt
theorem PCall.forget {f : FuncId} {aq9 : List PV} {t : TypeId} {k : Nat} {xs : List PV} (h : PCall P f aq9 (· = .fr t k xs)) : PCall P f aq9 (· = .sl k xs) := fun Z w vs hgw hz hm hR =>
  (h Z w vs hgw hz hm hR).mono fun e w' ⟨v, p, h1, h2, h3, h4, h5⟩ => by
    subst h2
    refine ⟨v, _, h1, rfl, ?_, h4.forget, h5⟩
    cases h3 with
    | fr _ _ _ h => exact .sl _ _ h
inductive NoF : PV → Prop
  | u (v : Value) : NoF (.u v)
  | agg (cs : List PV) (h : ∀ c ∈ cs, NoF c) : NoF (.agg cs)
  | tup (cs : List PV) (h : ∀ c ∈ cs, NoF c) : NoF (.tup cs)
  | sl (k : Nat) (xs : List PV) (h : ∀ c ∈ xs, NoF c) : NoF (.sl k xs)
  | rp (cs : List PV) (h : ∀ c ∈ cs, NoF c) : NoF (.rp cs)
theorem NoF.cell {p c : PV} (h : NoF p) (hc : c ∈ p.cells) : NoF c := by
  cases h with
  | agg cs h => exact h c hc
  | u v => simp [PV.cells] at hc; subst hc; exact .u v
  | tup cs h => simp [PV.cells] at hc; subst hc; exact .tup cs h
  | sl k xs h => simp [PV.cells] at hc; subst hc; exact .sl k xs h
  | rp cs h => simp [PV.cells] at hc; subst hc; exact .rp cs h
theorem Rp.noF {Z Z' : ZM} {H H' : PHeap} {V V' : Nm → Value} {w : World} {p : PV} {v : Value} (h : Rp Z H V w p v) (hp : NoF p) (hz : ∀ b, b < w.heap.size → ¬ PZ Z H V b → ¬ PZ Z' H' V' b) : Rp Z' H' V' w p v := by
  induction h with
  | u v => exact .u v
  | unk v => cases hp
  | agg cs vs hl h ih =>
    cases hp with
    | agg _ hc => exact .agg cs vs hl fun i p v h1 h2 => ih i p v h1 h2 (hc p (wb8 h1))
  | tup cs vs hl h ih =>
    cases hp with
    | tup _ hc => exact .tup cs vs hl fun i p v h1 h2 => ih i p v h1 h2 (hc p (wb8 h1))
  | nil k a c => exact .nil k a c
  | sl k xs b o c g hu hlen hzz hb h1 h2 ih =>
    cases hp with
    | sl _ _ hc => exact .sl k xs b o c g hu hlen (hz b hb hzz) hb h1 fun i p hi => ih i p hi (by
        obtain ⟨y, hy, hpy⟩ := wcu.1 (wb8 hi)
        exact (hc y hy).cell hpy)
  | fr t k xs v vals hu ho hzz h1 h2 ih => cases hp
  | rp cs b o g hzz hb h1 h2 ih =>
    cases hp with
    | rp _ hc => exact .rp cs b o g (hz b hb hzz) hb h1 fun i p hi => ih i p hi (hc p (wb8 hi))
  | ps id ver v hv h => cases hp
  | qs id off k ver v hv h => cases hp
  | pp id off ver v hv h => cases hp
  | fn f a b va vb hla hlb ha hb iha ihb => cases hp
end
end
end Go.Proofs.YtiafpechgjopfaaGreatDoor.L
namespace Go.Proofs.YtiafpechgjopfaaGreatDoor
noncomputable section
set_option maxRecDepth 100000
set_option maxHeartbeats 8000000
set_option linter.unusedVariables false
set_option linter.unusedSimpArgs false
set_option linter.defProp false
open List (replicate range)
open Go.RowKit
section
variable {α : Type}
def Rd (enc : α → Value) (w : World) (v : Value) (l : List α) : Prop :=
  ∃ (a : Option Addr) (c : Nat), v = .slice a l.length c ∧ ∀ (j : Nat) (h : j < l.length), ∃ b o, a = some ⟨b, o, none⟩ ∧ w.cell? ⟨b, o + j, none⟩ = some (enc l[j])
def Ow (enc : α → Value) (e : TypeId) (w : World) (B : Nat) (v : Value) (l : List α) : Prop := w.ownsRow B e 1 v l.length (l.map enc)
variable {enc : α → Value} {e : TypeId}
theorem Rd_nil (w : World) (a : Option Addr) (c : Nat) : Rd enc w (.slice a 0 c) [] := ⟨a, c, rfl, fun j h => by cases h⟩
theorem Rd.shape {w : World} {v : Value} {l : List α} (h : Rd enc w v l) : ∃ a c, v = .slice a l.length c := by
  obtain ⟨a, c, rfl, _⟩ := h
  exact ⟨_, _, rfl⟩
theorem Ow_nil (w : World) (B : Nat) : Ow enc e w B (.slice none 0 0) [] := World.ownsRow_nil w B _ 1
end
abbrev RdI := Rd (Value.int .i64)
abbrev OwI := Ow (Value.int .i64) 3
open Go
def zcc (l : List Int) : List Int := l.mergeSort fun x y => decide (x ≤ y)
def zaq (l : List Int) : List Int := Lib.compact l
theorem zqg (l : List Int) : (zcc l).Pairwise (· ≤ ·) := by
  have h : (l.mergeSort fun x y => decide (x ≤ y)).Pairwise fun a b => decide (a ≤ b) = true := List.pairwise_mergeSort (le := fun x y => decide (x ≤ y)) (by simp; intro a b c; omega) (by simp; intro a b; omega) l
  exact h.imp (by intro a b; simp)
theorem RdI.cells {w : World} {a : Option Addr} {c n : Nat} {l : List Int} (h : RdI w (.slice a n c) l) : n = l.length ∧ (l = [] ∨ ∃ b o, a = some ⟨b, o, none⟩ ∧ ∀ j, j < l.length → w.cell? ⟨b, o + j, none⟩ = some (.int .i64 (l.getD j 0))) := by
  obtain ⟨a', c', hv, hc⟩ := h
  cases hv
  refine ⟨rfl, ?_⟩
  by_cases h0 : l = []
  · exact Or.inl h0
  · have hp : 0 < l.length := List.length_pos_iff.2 h0
    obtain ⟨b, o, ha, _⟩ := hc 0 hp
    refine Or.inr ⟨b, o, ha, fun j hj => ?_⟩
    obtain ⟨b', o', ha', hcell⟩ := hc j hj
    rw [ha] at ha'
    cases ha'
    rw [hcell, wdk, wb5 hj]
    rfl
theorem zxb (v : Value) (l : List Int) (w : World) (hv : RdI w v l) (hl : l.length ≤ 10000000) :
    Calls Tryz.prog 33 #[v] w fun e w' => ∃ v', e = .returned v' ∧ OwI w' w.heap.size v' l ∧ Below w.heap.size w w' := by
  obtain ⟨a, c, rfl⟩ := hv.shape
  obtain ⟨_, h0 | ⟨b, o, rfl, hc⟩⟩ := hv.cells
  · subst h0
    cases a with
    | none => exact (Tryz.slices_Clone_int_nil 0 c w).mono fun e w' ⟨he, hw⟩ => by subst hw; exact ⟨_, he, Ow_nil _ _, Below.refl _ _⟩
    | some a => exact (Tryz.slices_Clone_int_zero a c w).mono fun e w' ⟨v', he, hown, _, hb⟩ => ⟨v', he, hown, hb⟩
  · exact (Tryz.slices_Clone_int b o l.length c l w (wb7 _) (by omega) hc).mono fun e w' ⟨v', he, hown, _, hb⟩ => ⟨v', he, by rw [List.take_length] at hown; exact hown, hb⟩
open Go Go.RowKit L
theorem L.mixed : Tryz.prog.follows .mixedOrders = true := by kernel_rfl
def slI (l : List Int) : PV := .sl 1 (l.map I)
theorem rd_of {α : Type} {f : α → PV} {enc : α → Value} (hf : ∀ x, f x = .u (enc x)) {Z : ZM} {w : World} {l : List α} {v : Value} (h : Rp Z waa V0 w (.sl 1 (l.map f)) v) : Rd enc w v l := by
  have hfl : (l.map f).flatMap PV.cells = l.map f := by
    clear h
    induction l with
    | nil => rfl
    | cons x l ih => rw [wcj, wci, ih, hf x]; rfl
  generalize hx : l.map f = xs at h hfl
  cases h with
  | nil k a c =>
    have : l = [] := List.map_eq_nil_iff.1 hx
    subst this
    exact Rd_nil _ _ _
  | sl k xs b o c g hu hlen hz hb h1 h2 =>
    subst hx
    refine ⟨_, c, by rw [wcs], fun j hj => ⟨b, o, rfl, ?_⟩⟩
    have hj' : ((l.map f).flatMap PV.cells)[j]? = some (f l[j]) := by rw [hfl]; simp [hj]
    rw [h1 j _ hj']
    have := h2 j _ hj'
    rw [hf] at this
    generalize g j = q at this
    cases this
    rfl
theorem rpu {Z : ZM} {H : PHeap} {V : Nm → Value} {w : World} {u v : Value} (h : Rp Z H V w (.u u) v) : v = u := by cases h; rfl
theorem zp0 {Z : ZM} {H : PHeap} {V : Nm → Value} {w : World} {p : PV} {vs : List Value} (h : RpL Z H V w [p] vs) : ∃ v, vs = [v] ∧ Rp Z H V w p v := by
  have h1 := h.1
  match vs, h1 with
  | [v], _ => exact ⟨v, rfl, h.2 0 p v rfl rfl⟩
theorem cells1 {α : Type} {rep : α → PV} (h : ∀ x, (rep x).cells = [rep x]) (l : List α) : (l.map rep).flatMap PV.cells = l.map rep := by
  induction l with
  | nil => rfl
  | cons m ms ih => rw [wcj, wci, ih, h]; rfl
end
end Go.Proofs.YtiafpechgjopfaaGreatDoor
namespace Go.Proofs.YtiafpechgjopfaaGreatDoor.L
noncomputable section
set_option maxRecDepth 100000
set_option maxHeartbeats 8000000
set_option linter.unusedVariables false
set_option linter.unusedSimpArgs false
set_option linter.defProp false
open List (replicate range)
open Go Go.RowKit
section
variable {P : Program} {W : Env} {n : Nat} {H : PHeap} {F : PFrame} {ops : Array Oper} {o : Oper} {l : List Oper}
def z34 (Q : Exit → PFrame → PHeap → Prop) : Exit → PFrame → PHeap → Prop
  | .goto _, _, _ => False
  | e, F, H => Q e F H
theorem PC.scope {c : Code} {Q : Exit → PFrame → PHeap → Prop} (h : PC P W n c F H (z34 Q)) : PC P W n (.scope c) F H Q := fun V a w Q' hr hQ =>
  wp_scope_straight (h V a w _ hr fun e F' H' V' a' w' hq hr' => by
    cases e <;> first | exact hQ _ _ _ _ _ _ hq hr' | exact hq.elim)
theorem PC.label {i : Nat} {Q : Exit → PFrame → PHeap → Prop} (h : Q .normal F H) : PC P W n (.label i) F H Q := fun V a w Q' hr hQ => wp_label (hQ _ _ _ _ _ _ h hr)
end
section
variable {P : Program} {H : PHeap} {F : PFrame} {d ty : Nat} {pos : String} {af : Array Edge} {g : Option (Nat × Bool)} {x y : Operand} {t t' : Nat} {k : IntKind} {a b : Int}
def ze5 (P : Program) (t : Nat) : Operand → Bool
  | .const (.slice none 0 0) => false
  | .const (.pointer none) => false
  | _ => true
theorem zeu {op : BinOp} (hy : ze5 P t y = true) : zxa P H F op t x y = ya P op t x y (evP F x) (evP F y) := by
  unfold zxa
  split
  · simp [ze5] at hy
  · simp [ze5] at hy
  · rfl
theorem b_eqB (p q : Bool) (ht : P.underlying t = some .bool) : ya P .eql t x y (.u (.bool p)) (.u (.bool q)) = some (.u (.bool (p == q))) := by
  have he : (Op.equal t (.bool p) (.bool q)).val P = some (p == q) := by
    unfold Op.equal Op.maxDepth Op.equalIn underlying
    simp only [qh, program, Sem.val, ht, Option.bind, qj]
  simp [ya, PV.val2, eqGuard, binOp, qh, qj, zkl, he, ofV]
theorem b_neB (p q : Bool) (ht : P.underlying t = some .bool) : ya P .neq t x y (.u (.bool p)) (.u (.bool q)) = some (.u (.bool (p != q))) := by
  have he : (Op.equal t (.bool p) (.bool q)).val P = some (p == q) := by
    unfold Op.equal Op.maxDepth Op.equalIn underlying
    simp only [qh, program, Sem.val, ht, Option.bind, qj]
  simp [ya, PV.val2, eqGuard, binOp, qh, qj, zkl, he, ofV, bne]
end
end
end Go.Proofs.YtiafpechgjopfaaGreatDoor.L
namespace Go.Proofs.YtiafpechgjopfaaGreatDoor
noncomputable section
set_option maxRecDepth 100000
set_option maxHeartbeats 8000000
set_option linter.unusedVariables false
set_option linter.unusedSimpArgs false
set_option linter.defProp false
open List (replicate range)
open Go Go.RowKit L
abbrev Arr (n : Nat) (α : Type) := {l : List α // l.length = n}
section
variable {P : Program} {W : Env} {n : Nat} {H : PHeap} {F : PFrame} {ops : Array Oper} {o : Oper} {l : List Oper} {K : PFrame → PHeap → Prop}
variable {d ty : Nat} {pos : String} {af : Array Edge} {g : Option (Nat × Bool)} {x y : Operand} {t t' : Nat}
theorem flat1 {α : Type} {rep : α → PV} (h : ∀ x, (rep x).cells = [rep x]) (xs : List α) : (xs.map rep).flatMap PV.cells = xs.map rep := cells1 h xs
end
section
variable {P : Program} {W : Env} {n : Nat} {H : PHeap} {F : PFrame} {ops : Array Oper} {o : Oper} {l : List Oper} {K : PFrame → PHeap → Prop}
variable {d ty : Nat} {pos : String} {af : Array Edge} {g : Option (Nat × Bool)} {x y : Operand} {t t' : Nat}
theorem wa7 {V : Nm → Value} {w : World} (hr : HRel P W H V w) {id : Nm} {ver e k m : Nat} {cs : List PV} (hH : H id = ⟨ver, some (.row e k m cs)⟩) :
    (m = 0 ∧ V id = .slice none 0 0) ∨ ∃ b cap cur, V id = .slice (some ⟨b, 0, none⟩) m cap ∧ W.w.heap.size ≤ b ∧ w.heap[b]? = some (.cells cur e (0, 0)) ∧ m ≤ cap ∧ cap ≤ maxLen ∧ cur.size = cap * k := by
  obtain ⟨vals, ho, _⟩ := hr.row id e k m cs (by rw [hH])
  rcases ho.2 with ⟨e1, h0⟩ | ⟨b, cap, cur, e1, h1, h2, h3, h4, h5, _⟩
  · exact .inl ⟨h0, e1⟩
  · exact .inr ⟨b, cap, cur, e1, h1, h2, h3, h4, h5⟩
theorem wa2 {lo : Operand} {id : Nm} {ver e k m : Nat} {kd : IntKind} {z : Int} {cs : List PV} {o : Oper} (ho : o.op = .slice t x (some lo) none none) (ht : esz P t = some k) (hx : evP F x = .ps id ver) (hH : H id = ⟨ver, some (.row e k m cs)⟩) (hy : evP F lo = .u (.int kd z)) (h0 : 0 ≤ z) (hz : z.toNat ≤ m) : PQ P W o F H (.qs id z.toNat k ver) :=
  wab fun V a w hr hh => by
    obtain ⟨e', ti, hu, hti, rfl⟩ := Ze ht
    have hxv := hh x (by rw [ho]; simp [Op.operands])
    have hyv := hh lo (by rw [ho]; simp [Op.operands])
    rw [hx] at hxv
    rw [hy] at hyv
    have e1 : a.eval x = V id := by
      generalize a.eval x = q at hxv
      cases hxv with
      | ps _ _ _ hvv hq => exact hq (by rw [hH]; rfl) (by rw [hH])
    have e2 : a.eval lo = .int kd z := by generalize a.eval lo = q at hyv; cases hyv; rfl
    rcases wa7 hr hH with ⟨rfl, hV⟩ | ⟨b, cap, cur, hV, _, _, hc, _, _⟩
    · have hz0 : z.toNat = 0 := by omega
      have hbd := vu (P := P) (w := w) (isS := true) (len := 0) (cap := 0) (l := 0) (h := 0) (lo := some (.int kd z)) (hi := none) (.inr ⟨kd, z, rfl, h0, hz0⟩) (.inl ⟨rfl, rfl⟩) (wb7 _) (wb7 _)
      refine ⟨.slice none 0 0, ?_, ?_⟩
      · simp only [execOp, ho]
        simp [e1, e2, hV, Instr.sliceAt, Instr.slice, run_underlying hu, hbd, sizeOf, typeInfo, hti]
      · rw [hz0]
        exact .qs id 0 _ ver _ (by rw [hH]; exact wb7 _) fun _ _ => ⟨none, 0, 0, none, hV, rfl, wb7 _, wb7 _, .inl ⟨rfl, rfl⟩⟩
    · have hbd := vu (P := P) (w := w) (isS := true) (len := m) (cap := cap) (l := z.toNat) (h := m) (lo := some (.int kd z)) (hi := none) (.inr ⟨kd, z, rfl, h0, rfl⟩) (.inl ⟨rfl, rfl⟩) hz hc
      by_cases hcz : cap = z.toNat
      · refine ⟨.slice (some ⟨b, 0, none⟩) (m - z.toNat) (cap - z.toNat), ?_, ?_⟩
        · simp only [execOp, ho]
          simp [e1, e2, hV, Instr.sliceAt, Instr.slice, run_underlying hu, hbd, sizeOf, typeInfo, hti]
          simp [hcz]
        · exact .qs id _ _ ver _ (by rw [hH]; exact wb7 _) fun _ _ => ⟨_, m, cap, _, hV, rfl, hz, hc, .inr ⟨b, 0, rfl, rfl, .inr hcz⟩⟩
      · refine ⟨.slice (some ⟨b, z.toNat * ti.size, none⟩) (m - z.toNat) (cap - z.toNat), ?_, ?_⟩
        · simp only [execOp, ho]
          simp [e1, e2, hV, Instr.sliceAt, Instr.slice, run_underlying hu, hbd, sizeOf, typeInfo, hti, hcz, yf]
        · exact .qs id _ _ ver _ (by rw [hH]; exact wb7 _) fun _ _ => ⟨_, m, cap, _, hV, rfl, hz, hc, .inr ⟨b, _, rfl, rfl, .inl rfl⟩⟩
end
def Jn {α : Type} (xs : List α) (ys : List α) : Option (List α) := if xs.length ≤ 10000000 then some ys else none
theorem zcy {α : Type} {xs ys zs : List α} (h : Jn xs ys = some zs) : xs.length ≤ 10000000 ∧ zs = ys := by
  unfold Jn at h; split at h
  · cases h; exact ⟨by assumption, rfl⟩
  · cases h
section
variable {P : Program} {W : Env} {n : Nat} {H : PHeap} {F : PFrame} {ops : Array Oper} {o : Oper} {l : List Oper} {K : PFrame → PHeap → Prop} {x : Operand} {ts : Array TypeId}
theorem us_of {Z : ZM} {V : Nm → Value} {w : World} {xs : List Int} {vals : List Value} (h : RpL Z H V w (xs.map I) vals) : vals = xs.map (.int .i64) := by
  apply wdt
  intro i
  have h1 := h.1
  simp only [wcs] at h1
  by_cases hi : i < xs.length
  · have e1 : (xs.map I)[i]? = some (I xs[i]) := by simp [hi]
    have e2 : vals[i]? = some vals[i] := wb5 (by omega)
    have := rpu (h.2 i _ _ e1 e2)
    rw [e2, this]; simp [hi]
  · rw [wdn (by omega), wdn (by simp; omega)]
theorem zy5 {V : Nm → Value} {w : World} (xs : List Int) : RpL W.Z H V w (xs.map I) (xs.map (.int .i64)) := by
  have := RpL.us (W := W) (H := H) (V := V) (w := w) (xs.map (Value.int .i64))
  rw [wc7] at this
  exact this
end
theorem zz5 (v : Value) (l : List Int) (B : Nat) (w : World) (hv : w.ownsRow B 3 1 v l.length (l.map (.int .i64))) (hl : l.length ≤ 10000000) :
    Calls Tryz.prog 243 #[v] w fun e w' => e = .returned (.tuple #[]) ∧ w'.ownsRow B 3 1 v l.length ((zcc l).map (.int .i64)) ∧ w.grownBy w' v.ownBlock := by
  have hlen : (zcc l).length = l.length := List.length_mergeSort l
  rcases hv.2 with ⟨rfl, h0⟩ | ⟨g, cap, cur, rfl, hb, hg, hnc, hcm, hcs, htake⟩
  · have e0 : l = [] := wcm h0
    subst e0
    exact (Tryz.slices_Sort_int_none none 0 w).mono fun e w' ⟨he, hw⟩ => by subst hw; exact ⟨he, by rw [show zcc [] = [] from by simp [zcc]]; exact World.ownsRow_nil _ _ _ _, ⟨rfl, rfl, rfl, wb7 _, fun _ _ _ => rfl⟩⟩
  · have hlt : g < w.heap.size := (wcg.1 hg).1
    obtain ⟨g', cap', e1, _, _, _, _, _, hH⟩ := Lib.holds_of_ownsRow (enc := Value.int .i64) hv (by simp)
    cases e1
    refine (Tryz.slices_Sort_int g 0 cap l w hH hlt (by omega)).mono ?_
    rintro e w' ⟨he, n, os, rfl⟩
    exact ⟨he, ownsRow_sortedI (n := n) (os := os) (ts := zcc l) hlen hb hg hnc hcm hcs, grownBy_sortedI _⟩
theorem ztj (v : Value) (l : List Int) (B : Nat) (w : World) (hv : w.ownsRow B 3 1 v l.length (l.map (.int .i64))) (hl : l.length ≤ 10000000) :
    Calls Tryz.prog 244 #[v] w fun e w' => ∃ v', e = .returned v' ∧ w'.ownsRow B 3 1 v' (zaq l).length ((zaq l).map (.int .i64)) ∧ w.grownBy w' v.ownBlock ∧ ∀ g, jv v' = some g → jv v = some g := by
  have hle : (Lib.compact l).length ≤ l.length := Lib.compact_length_le l
  rcases hv.2 with ⟨rfl, h0⟩ | ⟨g, cap, cur, rfl, hb, hg, hnc, hcm, hcs, htake⟩
  · have e0 : l = [] := wcm h0
    subst e0
    exact (Tryz.slices_Compact_int_empty none 0 w).mono fun e w' ⟨he, hw⟩ => by subst hw; exact ⟨_, he, World.ownsRow_nil _ _ _ _, ⟨rfl, rfl, rfl, wb7 _, fun _ _ _ => rfl⟩, fun g hg => hg⟩
  · obtain ⟨g', cap', e1, _, _, _, _, _, hH⟩ := Lib.holds_of_ownsRow (enc := Value.int .i64) hv (by simp)
    cases e1
    refine (Tryz.slices_Compact_int g 0 cap l w hH (by omega) hnc).mono ?_
    rintro e w' ⟨he, q, rfl⟩
    refine ⟨_, he, ?_, ?_, fun g hg => hg⟩
    · have h := Lib.ownsRow_putRow (q := q) (k := (Lib.compact l).length) (ys := Lib.compact l ++ replicate (l.length - (Lib.compact l).length) 0) hv (by simp; omega) hle
      rw [List.take_left] at h
      exact h
    · refine ⟨rfl, rfl, rfl, by simp [Sort.putRow, Sort.mapBlock, Sort.ahead], fun k hk hne => ?_⟩
      have : g ≠ k := fun e => hne (by rw [← e]; rfl)
      simp [Sort.putRow, Sort.mapBlock, Sort.ahead, Array.getElem?_modify, this]
section
variable {W : Env} {n : Nat} {H : PHeap} {F : PFrame} {ops : Array Oper} {o : Oper} {l : List Oper} {K : PFrame → PHeap → Prop} {x : Operand} {ts : Array TypeId}
theorem wa3 {f : FuncId} {id : Nm} {ver d : Nat} {xs ys : List Int} {back : Bool} {k : PV → PHeap → Prop} (ho : o.op = .call ⟨.value (.func f), #[x], ts⟩) (hd : Jc n o) (hf : yr Tryz.prog f = true) (hx : evP F x = .ps id ver) (hH : H id = ⟨ver, some (.row 3 1 xs.length (xs.map I))⟩)
    (hc : ∀ (v : Value) (B : Nat) (w : World), w.ownsRow B 3 1 v xs.length (xs.map (.int .i64)) → Calls Tryz.prog f #[v] w fun e w' => ∃ r v', e = .returned r ∧ w'.ownsRow B 3 1 v' ys.length (ys.map (.int .i64)) ∧ w.grownBy w' v.ownBlock ∧ (∀ g, jv v' = some g → jv v = some g) ∧ (if back = true then r = v' else v' = v ∧ r = .tuple #[]))
    (hk : if back = true then k (.ps id (ver + 1)) (H.set id ⟨ver + 1, some (.row 3 1 ys.length (ys.map I))⟩) else k (.u (.tuple #[])) (H.set id ⟨ver, some (.row 3 1 ys.length (ys.map I))⟩)) : PE Tryz.prog W n o F H k := fun V a w hr => by
  have hb : (H id).body = some (.row 3 1 xs.length (xs.map I)) := by rw [hH]
  have hve : (H id).ver = ver := by rw [hH]
  obtain ⟨vals, hown, hR, h1⟩ := hr.heap.row id _ _ _ _ hb
  have hvals := us_of hR
  subst hvals
  have ht : Q8 F ⟨.value (.func f), #[x], ts⟩ = some (f, [.ps id ver]) := by rw [zih]; simp [hx]
  obtain ⟨vs, he, hRv⟩ := Qf (P := Tryz.prog) (W := W) (H := H) (V := V) (a := a) (w := w) ho ht hf fun x hx' => Rp.eval (P := Tryz.prog) x fun t ht => hr.slot t
  obtain ⟨v, rfl, hv⟩ := zp0 hRv
  have hvV : v = V id := by
    cases hv with
    | ps _ _ _ hvv hh => exact hh (by rw [hb]; rfl) hve
  subst hvV
  have hob := Jq hown
  refine zb0 he ((hc (V id) _ w hown).mono fun e w' ⟨r, v', h2, h3, h4, h5, h6⟩ => ⟨r, h2, ?_⟩)
  have hbase : ∀ nv, (H id).ver < nv ∨ (nv = (H id).ver ∧ v' = V id) → Turn W H V w id ⟨nv, some (.row 3 1 ys.length (ys.map I))⟩ v' w' := fun nv hnv => by
    refine ⟨hr.heap.below.grown h4 hr.heap.below.size fun kk hk => (hown.lt kk hk).1, h4.size, fun bb hlt hn => h4.block bb hlt fun e' => hn ⟨by rw [hb]; rfl, by rw [← hob]; exact e'.symm⟩, fun g hg => .inr ⟨by rw [hb]; rfl, h5 g hg⟩, ?_⟩
    rcases hnv with h | ⟨h, h'⟩
    · exact .inl h
    · exact .inr ⟨h, h', by rw [hb]; rfl⟩
  cases back
  · simp only [wdi, if_false] at h6 hk
    obtain ⟨rfl, rfl⟩ := h6
    refine ⟨_, _, vg V id (V id), hk, hr.turn (hbase ver (.inr ⟨hve.symm, rfl⟩)) (fun bd hbd => ?_) o.dst hd (.u _)⟩
    cases hbd
    exact ⟨_, h3, zy5 ys, fun u hu => by obtain ⟨z, _, rfl⟩ := wcf.1 hu; rfl⟩
  · simp only [if_true] at h6 hk
    subst h6
    refine ⟨_, _, vg V id r, hk, hr.turn (hbase (ver + 1) (.inl (by omega))) (fun bd hbd => ?_) o.dst hd ?_⟩
    · cases hbd
      exact ⟨_, h3, zy5 ys, fun u hu => by obtain ⟨z, _, rfl⟩ := wcf.1 hu; rfl⟩
    · refine .ps _ _ _ ?_ fun _ _ => ?_
      · simp [PHeap.set]
      · simp [vg]
theorem zxs {xs : List Int} (hl : xs.length ≤ 10000000) : zr7 Tryz.prog 33 [slI xs] 3 1 (fun n us => n = xs.length ∧ us = xs.map (.int .i64)) := fun w vs h => by
  obtain ⟨v, rfl, hv⟩ := zp0 h
  exact (zxb v xs w (rd_of (fun _ => rfl) hv) hl).mono fun e w' ⟨v', h1, h2, h3⟩ => ⟨v', _, _, h1, ⟨rfl, rfl⟩, h2, fun u hu => by obtain ⟨z, _, rfl⟩ := wcf.1 hu; rfl, h3⟩
end
end
end Go.Proofs.YtiafpechgjopfaaGreatDoor
namespace Go.Proofs.YtiafpechgjopfaaGreatDoor.L
noncomputable section
set_option maxRecDepth 100000
set_option maxHeartbeats 8000000
set_option linter.unusedVariables false
set_option linter.unusedSimpArgs false
set_option linter.defProp false
open List (replicate range)
open Go Go.RowKit
structure zhk {α : Type} (P : Program) (key : TypeId) (kv : α → Value) (eqb : α → α → Bool) : Prop where
  chk : ∀ (b : Bool) (k : α) (w : World), (Instr.checkKey b 10000 key (kv k)).run P w = .ok () w
  und : ∃ d, P.underlying key = some d ∧ ∀ k k', Instr.sameNow d (kv k) (kv k') = none ∨ Instr.sameNow d (kv k) (kv k') = some (eqb k k')
  eq : ∀ (k k' : α) (w : World), (Op.equal key (kv k) (kv k')).run P w = .ok (eqb k k') w
  beq : ∀ k k', eqb k k' = true → k = k'
  bits : ∀ k, Instr.sameBits 10000 (kv k) (kv k) = true
def Qm {α β : Type} (eqb : α → α → Bool) (k : α) : List (α × β) → Nat → Option (Nat × β)
  | [], _ => none
  | e :: es, i => if eqb k e.1 then some (i, e.2) else Qm eqb k es (i + 1)
def zqi {α β : Type} (eqb : α → α → Bool) (l : List (α × β)) (k : α) : Option β := (Qm eqb k l 0).map (·.2)
def z13 {α β : Type} (eqb : α → α → Bool) (l : List (α × β)) (k : α) (v : β) : List (α × β) :=
  match Qm eqb k l 0 with
  | some (i, _) => l.modify i fun e => (k, v)
  | none => l ++ [(k, v)]
section
variable {P : Program} {α β : Type} {key elem : TypeId} {kv : α → Value} {vv : β → Value} {eqb : α → α → Bool}
theorem zoy {d : TypeDesc} (hs : ∀ k k', Instr.sameNow d (kv k) (kv k') = none ∨ Instr.sameNow d (kv k) (kv k') = some (eqb k k')) (k : α) : ∀ (es : List MapEntry) (l : List (α × β)) (i : Nat), es.map (fun e => (e.key, e.val)) = l.map (fun e => (kv e.1, vv e.2)) →
    Instr.findNow d (kv k) es i = none ∨ Instr.findNow d (kv k) es i = some ((Qm eqb k l i).map fun r => (r.1, vv r.2))
  | [], [], i, _ => .inr rfl
  | e :: es, x :: l, i, h => by
    simp only [wcj, weo, wdl] at h
    obtain ⟨⟨h1, h2⟩, h3⟩ := h
    unfold Instr.findNow Qm
    rw [h1, h2]
    rcases hs k x.1 with h4 | h4 <;> rw [h4]
    · exact .inl rfl
    · cases eqb k x.1
      · exact zoy hs k es l (i + 1) h3
      · exact .inr rfl
theorem zfj (he : ∀ (k k' : α) (w : World), (Op.equal key (kv k) (kv k')).run P w = .ok (eqb k k') w) (k : α) (w : World) : ∀ (es : List MapEntry) (l : List (α × β)) (i : Nat), es.map (fun e => (e.key, e.val)) = l.map (fun e => (kv e.1, vv e.2)) →
    (Instr.findAsking key (kv k) es i).run P w = .ok ((Qm eqb k l i).map fun r => (r.1, vv r.2)) w
  | [], [], i, _ => rfl
  | e :: es, x :: l, i, h => by
    simp only [wcj, weo, wdl] at h
    obtain ⟨⟨h1, h2⟩, h3⟩ := h
    unfold Instr.findAsking Qm
    rw [h1, h2]
    simp only [Sem.run_bind, he, Result.andThen_ok]
    cases eqb k x.1
    · simpa using zfj he k w es l (i + 1) h3
    · rfl
theorem zad (K : zhk P key kv eqb) (k : α) (w : World) {es : List MapEntry} {l : List (α × β)} (h : es.map (fun e => (e.key, e.val)) = l.map (fun e => (kv e.1, vv e.2))) :
    (Instr.findKey key (kv k) es).run P w = .ok ((Qm eqb k l 0).map fun r => (r.1, vv r.2)) w := by
  obtain ⟨d, hd, hs⟩ := K.und
  unfold Instr.findKey
  rw [Sem.run_bind, run_underlying hd, Result.andThen_ok]
  rcases zoy (vv := vv) hs k es l 0 h with h1 | h1
  · rw [h1]; exact zfj K.eq k w es l 0 h
  · rw [h1]; rfl
theorem zp3 (K : zhk P key kv eqb) {t : TypeId} (ht : P.underlying t = some (.map key elem)) {zb : β} (hz : ∀ w, (zeroValue elem).run P w = .ok (vv zb) w) (k : α) {w : World} {b : Nat} {arr : Array MapEntry} {clock : Nat} {l : List (α × β)} (hb : w.heap[b]? = some (.map arr clock)) (h : arr.toList.map (fun e => (e.key, e.val)) = l.map (fun e => (kv e.1, vv e.2))) (ok : Bool) :
    (Instr.lookup t (.map (some b)) (kv k) ok).run P w = .ok (if ok then .tuple #[vv ((zqi eqb l k).getD zb), .bool (zqi eqb l k).isSome] else vv ((zqi eqb l k).getD zb)) w := by
  have h1 := zad K k w h
  have h2 := K.chk arr.isEmpty k w
  unfold zqi
  cases hf : Qm eqb k l 0 with
  | none => rw [hf] at h1; simp [Instr.lookup, run_underlying ht, MapKept.run_getObj_map hb, h2, h1, hz]
  | some r => rw [hf] at h1; simp [Instr.lookup, run_underlying ht, MapKept.run_getObj_map hb, h2, h1]
theorem zs6 {eqb : α → α → Bool} {k : α} : ∀ {l : List (α × β)} {i : Nat} {r : Nat × β}, Qm eqb k l i = some r → ∃ e, l[r.1 - i]? = some e ∧ i ≤ r.1 ∧ eqb k e.1 = true
  | [], i, r, h => by cases h
  | e :: es, i, r, h => by
    unfold Qm at h
    split at h
    · rename_i he; cases h; exact ⟨e, by simp, wb7 _, he⟩
    · obtain ⟨e', h1, h2, h3⟩ := zs6 h
      exact ⟨e', by rw [show r.1 - i = (r.1 - (i + 1)) + 1 by omega]; simpa using h1, by omega, h3⟩
theorem zjt (K : zhk P key kv eqb) {t : TypeId} (ht : P.underlying t = some (.map key elem)) (k : α) (v : β) {w : World} {b : Nat} {arr : Array MapEntry} {clock : Nat} {l : List (α × β)} (hb : w.heap[b]? = some (.map arr clock)) (h : arr.toList.map (fun e => (e.key, e.val)) = l.map (fun e => (kv e.1, vv e.2))) :
    ∃ arr' clock', (Instr.mapUpdate t (.map (some b)) (kv k) (vv v)).run P w = .ok () { w with heap := w.heap.setIfInBounds b (.map arr' clock') } ∧ arr'.toList.map (fun e => (e.key, e.val)) = (z13 eqb l k v).map (fun e => (kv e.1, vv e.2)) := by
  have h1 := zad K k w h
  have h2 := K.chk false k w
  unfold z13
  cases hf : Qm eqb k l 0 with
  | none =>
    rw [hf] at h1
    refine ⟨arr.push { key := kv k, val := vv v, born := clock }, clock + 1, by simp [Instr.mapUpdate, run_underlying ht, MapKept.run_getObj_map hb, h2, h1, MapKept.run_setObj_map _ hb], ?_⟩
    simp [h]
  | some r =>
    obtain ⟨i, x⟩ := r
    rw [hf] at h1
    obtain ⟨e, h3, _, h4⟩ := zs6 hf
    simp only [Nat.sub_zero] at h3
    have hke := K.beq _ _ h4
    have hai : arr.toList[i]?.map (fun e => (e.key, e.val)) = some (kv e.1, vv e.2) := by
      rw [← wb9, h, wb9, h3]; rfl
    obtain ⟨ae, hae, hae2⟩ := wca.1 hai
    simp only [wdl] at hae2
    have hae' : arr[i]? = some ae := by simpa using hae
    refine ⟨arr.modify i fun e => { e with key := kv k, val := vv v }, clock, ?_, ?_⟩
    · have hks : (Instr.keyThatStays (kv e.1) (kv k)).run P w = .ok (kv k) w := by
        rw [← hke]; simp [Instr.keyThatStays, K.bits]
      simp [Instr.mapUpdate, run_underlying ht, MapKept.run_getObj_map hb, h2, h1, hae', hae2.1, hks, MapKept.run_setObj_map _ hb]
    · apply wdt
      intro j
      have hj : (arr.toList[j]?).map (fun e => (e.key, e.val)) = (l[j]?).map (fun e => (kv e.1, vv e.2)) := by rw [← wb9, ← wb9, h]
      simp only [Array.toList_modify, wb9, List.getElem?_modify]
      cases ha : arr.toList[j]? with
      | none => rw [ha] at hj; cases hl : l[j]? with
        | none => rfl
        | some y => rw [hl] at hj; cases hj
      | some y =>
        rw [ha] at hj
        cases hl : l[j]? with
        | none => rw [hl] at hj; cases hj
        | some z =>
          rw [hl] at hj
          simp only [wcd, wco, wdl] at hj
          by_cases hij : i = j
          · simp [hij]
          · simp [hij, hj]
end
section
variable {P : Program}
theorem Yj {d : Nat} {t : TypeId} {D : TypeDesc} {x y : Value} {r : Bool} (ht : P.underlying t = some D) (h : Instr.sameNow D x y = some r) (w : World) : (Op.equalIn (d + 1) t x y).run P w = .ok r w := by
  unfold Instr.sameNow at h
  split at h
  · split at h
    · rename_i hk; cases h; subst hk; simp [Op.equalIn, run_underlying ht]
    · cases h
  · cases h; simp [Op.equalIn, run_underlying ht]
  · cases h; simp [Op.equalIn, run_underlying ht]
  · cases h
theorem zha {D : TypeDesc} {x y : Value} {r : Bool} (h : Instr.sameNow D x y = some r) : zhr D = false := by
  unfold Instr.sameNow at h
  split at h <;> first | rfl | cases h
def Vw (P : Program) (xs ys : Array Value) (f : Field) : Option Bool :=
  if f.name = "_" then none else
  match P.underlying f.type, xs[f.offset]?, ys[f.offset]? with
  | some d, some x, some y => Instr.sameNow d x y
  | _, _, _ => none
def eqS (P : Program) (t : TypeId) (xs ys : Array Value) : Option (List Bool) :=
  match P.underlying t with
  | some (.struct fs) => if P.stoodInHeld t then none else fs.toList.mapM (Vw P xs ys)
  | _ => none
theorem Zq {t : TypeId} {D : TypeDesc} (ht : P.underlying t = some D) (ha : zhr D = false) {cs : Array Value} {i : Nat} {v : Value} (h : cs[i]? = some v) (w : World) : (part t cs i).run P w = .ok v w := by
  unfold part
  rw [Sem.run_bind, zo2 ht]
  simp [ha, h]
theorem zf2 {xs ys : Array Value} {f : Field} {r : Bool} (h : Vw P xs ys f = some r) : f.name ≠ "_" ∧ ∃ D x y, P.underlying f.type = some D ∧ zhr D = false ∧ xs[f.offset]? = some x ∧ ys[f.offset]? = some y ∧ Instr.sameNow D x y = some r := by
  unfold Vw at h
  split at h
  · cases h
  · rename_i hn
    refine ⟨hn, ?_⟩
    split at h
    · rename_i D x y h1 h2 h3
      exact ⟨D, x, y, h1, zha h, h2, h3, h⟩
    · cases h
theorem zfn {xs ys : Array Value} {d : Nat} (w : World) : ∀ (fs : List Field) (es : List Bool), fs.mapM (Vw P xs ys) = some es → (Op.eqFields (d + 1) xs ys fs).run P w = .ok (es.all id) w
  | [], es, h => by
    simp at h; subst h; simp [Op.eqFields]
  | f :: fs, es, h => by
    rw [wds] at h
    cases h1 : Vw P xs ys f with
    | none => rw [h1] at h; cases h
    | some r =>
      rw [h1] at h
      cases h2 : fs.mapM (Vw P xs ys) with
      | none => rw [h2] at h; cases h
      | some rs =>
        rw [h2] at h
        cases h
        obtain ⟨hn, D, x, y, hD, hp, hx, hy, hs⟩ := zf2 h1
        unfold Op.eqFields
        rw [if_pos hn]
        simp only [Sem.run_bind, Zq hD hp hx, Zq hD hp hy, Yj hD hs, Result.andThen_ok]
        cases r
        · simp
        · simpa using zfn w fs rs h2
theorem zl0 {t : TypeId} {xs ys : Array Value} {es : List Bool} (h : eqS P t xs ys = some es) : ∃ fs, P.underlying t = some (.struct fs) ∧ P.stoodInHeld t = false ∧ fs.toList.mapM (Vw P xs ys) = some es := by
  unfold eqS at h
  split at h
  · rename_i fs hu
    split at h
    · cases h
    · rename_i hs; exact ⟨fs, hu, by simpa using hs, h⟩
  · cases h
theorem zvo {t : TypeId} {xs ys : Array Value} {es : List Bool} (h : eqS P t xs ys = some es) (w : World) (d : Nat) : (Op.equalIn (d + 2) t (.agg xs) (.agg ys)).run P w = .ok (es.all id) w := by
  obtain ⟨fs, hu, hs, he⟩ := zl0 h
  have hf : P.fieldsOf t = fs := by unfold Program.fieldsOf; rw [hu]
  rw [run_equalIn_struct w (d + 1) t xs ys (by rw [hf]; exact hu) hs, hf]
  exact zfn w _ _ he
theorem z45 {α : Type} {t : TypeId} {kc : α → Array Value} {eb : α → α → List Bool} (a0 : α) (h : ∀ a b, eqS P t (kc a) (kc b) = some (eb a b)) (hb : ∀ a b, (eb a b).all id = true → a = b) (hbits : ∀ a, Instr.sameBits 10000 (.agg (kc a)) (.agg (kc a)) = true) : zhk P t (fun a => .agg (kc a)) (fun a b => (eb a b).all id) where
  chk := fun b k w => by
    obtain ⟨fs, hu, hs, he⟩ := zl0 (h k k)
    unfold Instr.checkKey
    simp only [Sem.run_bind, run_underlying hu, Result.andThen_ok]
    rw [← Array.forIn_toList]
    have key : ∀ (l : List Field) (es : List Bool), l.mapM (Vw P (kc k) (kc k)) = some es → ∀ (n : Nat), (forIn l PUnit.unit fun f (_ : PUnit) => (if f.name ≠ "_" then do Instr.checkKey b (n + 1) f.type (← part f.type (kc k) f.offset); pure (ForInStep.yield PUnit.unit) else pure (ForInStep.yield PUnit.unit) : Sem (ForInStep PUnit))).run P w = .ok PUnit.unit w := by
      intro l
      induction l with
      | nil => intro es _ n; simp
      | cons f l ih =>
        intro es hm n
        rw [wds] at hm
        cases h1 : Vw P (kc k) (kc k) f with
        | none => rw [h1] at hm; cases hm
        | some r =>
          rw [h1] at hm
          cases h2 : l.mapM (Vw P (kc k) (kc k)) with
          | none => rw [h2] at hm; cases hm
          | some rs =>
            obtain ⟨hn, D, x, y, hD, hp, hx, hy, hsn⟩ := zf2 h1
            have hc : (Instr.checkKey b (n + 1) f.type x).run P w = .ok () w := by
              unfold Instr.checkKey
              simp only [Sem.run_bind, run_underlying hD, Result.andThen_ok]
              unfold Instr.sameNow at hsn
              split at hsn <;> first | rfl | cases hsn
            rw [List.forIn_cons, if_pos hn]
            simp only [Sem.run_bind, Zq hD hp hx, hc, Result.andThen_ok, Sem.run_pure]
            exact ih rs h2 n
    have := key _ _ he 9998
    simp only [Nat.reduceAdd] at this
    rw [this]; rfl
  und := by
    obtain ⟨fs, hu, _, _⟩ := zl0 (h a0 a0)
    exact ⟨_, hu, fun k k' => .inl rfl⟩
  eq := fun a b w => zvo (h a b) w 9998
  beq := hb
  bits := hbits
theorem zli (c : Nat → Bool) (body : Nat → Option Bool × Unit → Sem (ForInStep (Option Bool × Unit))) (w : World) : ∀ (l : List Nat), (∀ i ∈ l, (body i (none, ())).run P w = .ok (if c i then .yield (none, ()) else .done (some false, ())) w) →
    (forIn l ((none, ()) : Option Bool × Unit) body).run P w = .ok (if l.all c then none else some false, ()) w
  | [], _ => by simp
  | i :: l, h => by
    rw [List.forIn_cons, Sem.run_bind, h i (by simp)]
    cases hc : c i
    · simp [hc]
    · simpa [hc] using zli c body w l fun j hj => h j (by simp [hj])
theorem z2m {t e : TypeId} {n : Nat} {D : TypeDesc} {xs ys : Array Value} {c : Nat → Bool} (hu : P.underlying t = some (.array n e)) (hD : P.underlying e = some D) (hs : ∀ w, (sizeOf e).run P w = .ok 1 w) (h : ∀ i, i < n → ∃ x y, xs[i]? = some x ∧ ys[i]? = some y ∧ Instr.sameNow D x y = some (c i)) (w : World) (d : Nat) :
    (Op.equalIn (d + 2) t (.agg xs) (.agg ys)).run P w = .ok ((range n).all c) w := by
  rw [Op.equalIn]
  simp only [Sem.run_bind, run_underlying hu, Result.andThen_ok, hs]
  rw [Std.Legacy.Range.forIn_eq_forIn_range']
  have e1 : List.range' ([:n] : Std.Legacy.Range).start ([:n] : Std.Legacy.Range).size ([:n] : Std.Legacy.Range).step = range n := by
    simp [Std.Legacy.Range.size, wd6]
  rw [e1]
  have h2 := zli (P := P) c (fun i r => do
      if (!(← Op.equalIn (d + 1) e (← part e xs (i * 1)) (← part e ys (i * 1)))) = true then pure (ForInStep.done (some false, ())) else pure (ForInStep.yield (none, ()))) w (range n) fun i hi => by
    obtain ⟨x, y, hx, hy, hsn⟩ := h i (wdw.1 hi)
    simp only [Nat.mul_one, Sem.run_bind, Zq hD (zha hsn) hx, Zq hD (zha hsn) hy, Yj hD hsn, Result.andThen_ok]
    cases c i <;> simp
  rw [h2]
  cases (range n).all c <;> simp
end
end
end Go.Proofs.YtiafpechgjopfaaGreatDoor.L
namespace Go.Proofs.YtiafpechgjopfaaGreatDoor
noncomputable section
set_option maxRecDepth 100000
set_option maxHeartbeats 8000000
set_option linter.unusedVariables false
set_option linter.unusedSimpArgs false
set_option linter.defProp false
open List (replicate range)
open Go Go.RowKit L
section
variable {P : Program} {W : Env} {n : Nat} {H : PHeap} {F : PFrame} {ops : Array Oper} {o : Oper} {l : List Oper} {K : PFrame → PHeap → Prop}
variable {d ty t' : Nat} {pos : String} {af : Array Edge} {g : Option (Nat × Bool)} {x y : Operand} {t : Nat}
theorem zx2 {a b : List Int} {n : Nat} (ha : a.length = n) (hb : b.length = n) : ((range n).all fun i => a.getD i 0 == b.getD i 0) = (a == b) := by
  rw [Bool.eq_iff_iff, wcz, beq_iff_eq]
  constructor
  · intro h
    apply List.ext_getElem (by omega)
    intro i h1 h2
    have := h i (wdw.2 (by omega))
    simpa [List.getD, h1, h2] using this
  · intro h i _; rw [h]; simp
theorem z06 {e m : Nat} {kd : IntKind} (hu : P.underlying t = some (.array m e)) (hD : P.underlying e = some (.int kd)) (hs : ∀ w, (sizeOf e).run P w = .ok 1 w) (a b : Arr m Int) (w : World) :
    (Op.equal t (.agg (a.1.map (Value.int kd)).toArray) (.agg (b.1.map (Value.int kd)).toArray)).run P w = .ok (a.1 == b.1) w := by
  have h := z2m (P := P) (c := fun i => a.1.getD i 0 == b.1.getD i 0) (xs := (a.1.map (Value.int kd)).toArray) (ys := (b.1.map (Value.int kd)).toArray) hu hD hs (fun i hi => by
    have h1 : i < a.1.length := by rw [a.2]; exact hi
    have h2 : i < b.1.length := by rw [b.2]; exact hi
    exact ⟨.int kd a.1[i], .int kd b.1[i], by simp [h1], by simp [h2], by simp [Instr.sameNow, List.getD, h1, h2]⟩) w 9998
  rw [zx2 a.2 b.2] at h
  exact h
def z3p (a b : ByteArray) : Option ByteArray := if ((a.size + b.size : Nat) : Int) ≤ 9223372036854775807 then some (a ++ b) else none
theorem b_addS {a b r : ByteArray} (h : z3p a b = some r) : ya P .add t x y (.u (.string a)) (.u (.string b)) = some (.u (.string r)) := by
  unfold z3p at h
  split at h
  · rename_i hc
    cases h
    have : ¬ ((a.size + b.size : Nat) : Int) > IntKind.i64.max := by simp only [IntKind.max, IntKind.bits] at *; omega
    simp only [ya, PV.val2, eqGuard, binOp, qh, qj, Op.stringOp, ofV, if_neg this]; rfl
  · cases h
def bltS (a b : ByteArray) : Bool := Op.bytesLess a.toList b.toList
theorem b_lssS (a b : ByteArray) : ya P .lss t x y (.u (.string a)) (.u (.string b)) = some (.u (.bool (bltS a b))) := by
  simp [ya, PV.val2, eqGuard, binOp, qh, qj, Op.stringOp, ofV, bltS]
def zu1 (k : IntKind) (a b : Int) : Option Int := if b = 0 then none else some (k.wrap (a.tdiv b))
def zx3 (k : IntKind) (a b : Int) : Option Int := if b = 0 then none else some (a.tmod b)
theorem b_quo {k : IntKind} {a b r : Int} (h : zu1 k a b = some r) : ya P .quo t x y (.u (.int k a)) (.u (.int k b)) = some (.u (.int k r)) := by
  unfold zu1 at h
  split at h
  · cases h
  · rename_i hb; cases h; simp [ya, PV.val2, eqGuard, binOp, qh, qj, Op.intDiv, hb, ofV]
theorem b_rem {k : IntKind} {a b r : Int} (h : zx3 k a b = some r) : ya P .rem t x y (.u (.int k a)) (.u (.int k b)) = some (.u (.int k r)) := by
  unfold zx3 at h
  split at h
  · cases h
  · rename_i hb; cases h; simp [ya, PV.val2, eqGuard, binOp, qh, qj, Op.intDiv, hb, ofV]
end
section
variable {P : Program} {x y : Operand} {t t' : Nat}
def andI (k : IntKind) (a b : Int) : Int := k.wrap ((BitVec.ofInt k.bits a &&& BitVec.ofInt k.bits b).toNat)
def orI (k : IntKind) (a b : Int) : Int := k.wrap ((BitVec.ofInt k.bits a ||| BitVec.ofInt k.bits b).toNat)
def xorI (k : IntKind) (a b : Int) : Int := k.wrap ((BitVec.ofInt k.bits a ^^^ BitVec.ofInt k.bits b).toNat)
def zqd (k : IntKind) (a b : Int) : Int := k.wrap ((BitVec.ofInt k.bits a &&& ~~~(BitVec.ofInt k.bits b)).toNat)
def zzi (k : IntKind) (a b : Int) : Option Int := if b < 0 then none else some (k.wrap (a * 2 ^ (min b.toNat k.bits)))
def zyl (k : IntKind) (a b : Int) : Option Int := if b < 0 then none else some (a.fdiv (2 ^ (min b.toNat k.bits)))
theorem b_and {k : IntKind} (a b : Int) : ya P .and t x y (.u (.int k a)) (.u (.int k b)) = some (.u (.int k (andI k a b))) := by simp [ya, PV.val2, eqGuard, binOp, qh, qj, Op.intBits, ofV, andI]
theorem b_or {k : IntKind} (a b : Int) : ya P .or t x y (.u (.int k a)) (.u (.int k b)) = some (.u (.int k (orI k a b))) := by simp [ya, PV.val2, eqGuard, binOp, qh, qj, Op.intBits, ofV, orI]
theorem b_xor {k : IntKind} (a b : Int) : ya P .xor t x y (.u (.int k a)) (.u (.int k b)) = some (.u (.int k (xorI k a b))) := by simp [ya, PV.val2, eqGuard, binOp, qh, qj, Op.intBits, ofV, xorI]
theorem zy8 {k : IntKind} (a b : Int) : ya P .andNot t x y (.u (.int k a)) (.u (.int k b)) = some (.u (.int k (zqd k a b))) := by simp [ya, PV.val2, eqGuard, binOp, qh, qj, Op.intBits, ofV, zqd]
theorem b_shl {k k' : IntKind} {a b r : Int} (h : zzi k a b = some r) : ya P .shl t x y (.u (.int k a)) (.u (.int k' b)) = some (.u (.int k r)) := by
  unfold zzi at h
  split at h
  · cases h
  · rename_i hb; cases h; simp [ya, PV.val2, eqGuard, binOp, qh, qj, Op.shift, hb, ofV]
theorem b_shr {k k' : IntKind} {a b r : Int} (h : zyl k a b = some r) : ya P .shr t x y (.u (.int k a)) (.u (.int k' b)) = some (.u (.int k r)) := by
  unfold zyl at h
  split at h
  · cases h
  · rename_i hb; cases h; simp [ya, PV.val2, eqGuard, binOp, qh, qj, Op.shift, hb, ofV]
end
end
end Go.Proofs.YtiafpechgjopfaaGreatDoor
namespace Go.Proofs.YtiafpechgjopfaaGreatDoor.L
noncomputable section
set_option maxRecDepth 100000
set_option maxHeartbeats 8000000
set_option linter.unusedVariables false
set_option linter.unusedSimpArgs false
set_option linter.defProp false
open List (replicate range)
open Go Go.RowKit
section
variable {P : Program} {W : Env} {n : Nat} {H : PHeap} {F : PFrame}
def PHeap.only (H : PHeap) (D : Nm → Bool) : PHeap := fun i => if D i then H i else ⟨(H i).ver, none⟩
def zua (H H' : PHeap) (D : Nm → Bool) : Prop := ∀ i, (D i = false → H' i = H i) ∧ (D i = true → (H' i).body = none ∧ (H i).ver ≤ (H' i).ver)
def Env.kept (W : Env) (H : PHeap) (V : Nm → Value) (D : Nm → Bool) : Env := { W with Z := ⟨fun b => W.Z b ∨ ∃ id, D id = false ∧ (H id).body.isSome = true ∧ jv (V id) = some b, W.Z.m⟩ }
theorem zoa {D : Nm → Bool} {i : Nm} {bd : PBody} (h : ((H.only D) i).body = some bd) : D i = true ∧ (H i).body = some bd := by
  unfold PHeap.only at h
  cases hD : D i
  · simp [hD] at h
  · simp only [hD, if_true] at h; exact ⟨rfl, h⟩
theorem Vu {D : Nm → Bool} {i : Nm} (h : ((H.only D) i).body.isSome = true) : D i = true ∧ (H i).body.isSome = true := by
  cases hb : ((H.only D) i).body with
  | none => rw [hb] at h; cases h
  | some bd => obtain ⟨h1, h2⟩ := zoa hb; exact ⟨h1, by rw [h2]; rfl⟩
theorem zh3 {H' : PHeap} {D : Nm → Bool} {i : Nm} {bd : PBody} (hl : zua H H' D) (h : (H' i).body = some bd) : D i = false ∧ (H i).body = some bd := by
  cases hD : D i with
  | true => rw [((hl i).2 hD).1] at h; cases h
  | false => rw [(hl i).1 hD] at h; exact ⟨rfl, h⟩
theorem Vs {H' : PHeap} {D : Nm → Bool} {i : Nm} (hl : zua H H' D) (h : (H' i).body.isSome = true) : D i = false ∧ (H i).body.isSome = true := by
  obtain ⟨bd, hb⟩ := wcp.1 h
  obtain ⟨h1, h2⟩ := zh3 hl hb
  exact ⟨h1, by rw [h2]; rfl⟩
theorem Rp.only {D : Nm → Bool} {V : Nm → Value} {w : World} {p : PV} {v : Value} (h : Rp W.Z H V w p v) : Rp (W.kept H V D).Z (H.only D) V w p v :=
  h.mono (fun b hz hlt => ⟨fun hz' => by
    rcases hz' with (hz' | ⟨id, _, h2, h3⟩) | ⟨id, h2, h3⟩
    · exact hz (.inl hz')
    · exact hz (.inr ⟨id, h2, h3⟩)
    · exact hz (.inr ⟨id, (Vu h2).2, h3⟩), hlt, rfl⟩) (wb7 _) (fun id => by unfold PHeap.only; split <;> exact wb7 _) (fun id ver hv h1 h2 => by
    obtain ⟨h3, h4⟩ := Vu h1
    refine ⟨h4, ?_, rfl⟩
    unfold PHeap.only at h2
    rw [h3] at h2
    simpa using h2)
theorem Rp.less {H' : PHeap} {D : Nm → Bool} (hl : zua H H' D) {V : Nm → Value} {w : World} {p : PV} {v : Value} (h : Rp W.Z H V w p v) : Rp W.Z H' V w p v :=
  h.mono (fun b hz hlt => ⟨fun hz' => by
    rcases hz' with hz' | ⟨id, h2, h3⟩
    · exact hz (.inl hz')
    · exact hz (.inr ⟨id, (Vs hl h2).2, h3⟩), hlt, rfl⟩) (wb7 _) (fun id => by
    cases hD : D id with
    | true => exact ((hl id).2 hD).2
    | false => rw [(hl id).1 hD]; exact wb7 _) (fun id ver hv h1 h2 => by
    obtain ⟨h3, h4⟩ := Vs hl h1
    rw [(hl id).1 h3] at h2
    exact ⟨h4, h2, rfl⟩)
theorem HRel.only {D : Nm → Bool} {V : Nm → Value} {w : World} (hr : HRel P W H V w) : HRel P (W.kept H V D) (H.only D) V w := by
  refine ⟨hr.below, fun i bd h => ?_, fun i => (hr.ghost i).only, fun i j g h1 h2 => hr.apart i j g (Vu h1).2 (Vu h2).2, fun b hz => ?_, fun i b h1 h2 hz => ?_⟩
  · obtain ⟨vs, h1, h2⟩ := hr.body i bd (zoa h).2
    exact ⟨vs, h1, h2.mono fun p u hp => hp.only⟩
  · rcases hz with hz | ⟨id, _, h2, h3⟩
    · exact hr.zlt b hz
    · exact (hr.own_lt h2 h3).2
  · rcases hz with hz | ⟨id, h3, h4, h5⟩
    · exact hr.nz i b (Vu h1).2 h2 hz
    · have := hr.apart i id b (Vu h1).2 h4 h2 h5
      subst this
      rw [(Vu h1).1] at h3; cases h3
theorem HRel.less {H' : PHeap} {D : Nm → Bool} (hl : zua H H' D) {V : Nm → Value} {w : World} (hr : HRel P W H V w) : HRel P W H' V w := by
  refine ⟨hr.below, fun i bd h => ?_, fun i => (hr.ghost i).less hl, fun i j g h1 h2 => hr.apart i j g (Vs hl h1).2 (Vs hl h2).2, hr.zlt, fun i b h1 h2 => hr.nz i b (Vs hl h1).2 h2⟩
  obtain ⟨vs, h1, h2⟩ := hr.body i bd (zh3 hl h).2
  exact ⟨vs, h1, h2.mono fun p u hp => hp.less hl⟩
end
section
variable {α β : Type} {kv : α → Value} {eqb : α → α → Bool}
def kIx (eqb : α → α → Bool) (k : α) : List α → Option Nat
  | [] => none
  | e :: es => if eqb k e then some 0 else (kIx eqb k es).map (· + 1)
theorem zcm {k : α} : ∀ {ks : List α} {j : Nat}, kIx eqb k ks = some j → ∃ e, ks[j]? = some e ∧ eqb k e = true
  | [], j, h => by cases h
  | e :: es, j, h => by
    unfold kIx at h
    split at h
    · rename_i he; cases h; exact ⟨e, rfl, he⟩
    · obtain ⟨i, hi, rfl⟩ := wca.1 h
      obtain ⟨e', h1, h2⟩ := zcm hi
      exact ⟨e', by simpa using h1, h2⟩
theorem zn6 {k : α} : ∀ {ks : List α} {vs : List β} {i : Nat}, ks.length = vs.length → Qm eqb k (ks.zip vs) i = (kIx eqb k ks).bind fun j => (vs[j]?).map fun v => (i + j, v)
  | [], [], i, _ => rfl
  | e :: es, v :: vs, i, h => by
    simp only [List.zip_cons_cons, Qm, kIx]
    split
    · simp
    · rw [zn6 (by simpa using h)]
      cases kIx eqb k es with
      | none => rfl
      | some j =>
        simp only [wcd, wc4, wdy]
        cases vs[j]? with
        | none => rfl
        | some u => simp only [wcd, wco, wdl, and_true]; omega
end
def mapRφ (ks : List Value) (bs : List Nat) (clock : Nat) : Nat → Obj → List Value → Prop := fun _ o vs => ∃ arr, o = .map arr clock ∧ arr.toList.map (·.key) = ks ∧ arr.toList.map (·.val) = vs ∧ arr.toList.map (·.born) = bs ∧ bs.Nodup ∧ ∀ b ∈ bs, b < clock
def y6 (ks : List Value) (bs : List Nat) (clock : Nat) (cs : List PV) : PBody := .raw false cs (mapRφ ks bs clock)
def itφ (mask : List Bool) (last : Option Nat) : Nat → Obj → List Value → Prop := fun _ o vs => ∃ (b : Nat) (seen : Array Nat), vs = [.map (some b)] ∧ o = .mapIter (some b) mask.length seen mask.length ∧ (∀ i, seen.contains i = (mask[i]?).getD false) ∧ ∀ j, last = some j → ∃ s0 : Array Nat, seen = s0.push j
def itB (id : Nm) (ver : Nat) (mask : List Bool) (last : Option Nat) : PBody := .raw true [.ps id ver] (itφ mask last)
theorem z0j {w : World} {g : Nat} {o : Obj} (h : w.heap[g]? = some o) : { w with heap := w.heap.setIfInBounds g o } = w := by
  have : w.heap.setIfInBounds g o = w.heap := by
    apply Array.ext_getElem?
    intro i
    by_cases e : g = i
    · subst e
      have hlt := (wcg.1 h).1
      simp [Array.getElem?_setIfInBounds, hlt, h]
      exact ((wcg.1 h).2).symm
    · simp [Array.getElem?_setIfInBounds, e]
  rw [this]
section
variable {P : Program} {W : Env} {n : Nat} {H : PHeap} {F : PFrame} {o : Oper} {K : PV → PHeap → Prop}
variable {α : Type} {key elem : TypeId} {kv : α → Value} {eqb : α → α → Bool} {x y z : Operand} {t : TypeId} {id : Nm} {ver clock : Nat} {ks : List α} {bs : List Nat} {cs : List PV}
theorem zdv {kvs : List Value} {V : Nm → Value} {w : World} {v : Value} (hH : H id = ⟨ver, some (y6 kvs bs clock cs)⟩) (hr : HRel P W H V w) (hv : Rp W.Z H V w (.ps id ver) v) :
    ∃ g arr, v = .map (some g) ∧ V id = .map (some g) ∧ W.w.heap.size ≤ g ∧ w.heap[g]? = some (.map arr clock) ∧ arr.toList.map (·.key) = kvs ∧ RpL W.Z H V w cs (arr.toList.map (·.val)) ∧ arr.toList.map (·.born) = bs ∧ bs.Nodup ∧ ∀ b ∈ bs, b < clock := by
  obtain ⟨g, o, vs, e, hg, hh, ⟨arr, rfl, h1, rfl, h2, h3, h4⟩, hR⟩ := hr.map id false cs _ (by rw [hH]; rfl)
  cases hv with
  | ps _ _ _ hvv hq =>
    have := hq (by rw [hH]; rfl) (by rw [hH])
    exact ⟨g, arr, by rw [this, e]; rfl, e, hg, hh, h1, hR, h2, h3, h4⟩
theorem z31 {arr : Array MapEntry} (h : arr.toList.map (·.key) = ks.map kv) : arr.toList.map (fun e => (e.key, e.val)) = (ks.zip (arr.toList.map (·.val))).map fun e => (kv e.1, (fun v : Value => v) e.2) := by
  generalize arr.toList = l at h
  clear arr
  induction l generalizing ks with
  | nil => cases ks with
    | nil => rfl
    | cons _ _ => simp at h
  | cons e l ih => cases ks with
    | nil => simp at h
    | cons k ks =>
      simp only [wcj, weo] at h
      simp only [wcj, List.zip_cons_cons, h.1, weo, true_and]
      exact ih h.2
theorem zl8 (KL : zhk P key kv eqb) (k : α) (w : World) {arr : Array MapEntry} (h : arr.toList.map (·.key) = ks.map kv) : (Instr.findKey key (kv k) arr.toList).run P w = .ok ((kIx eqb k ks).bind fun j => (arr.toList[j]?).map fun e => (j, e.val)) w := by
  have hl : ks.length = (arr.toList.map (·.val)).length := by have := congrArg List.length h; simpa using this.symm
  rw [zad (vv := fun v : Value => v) KL k w (z31 h), zn6 hl]
  congr 1
  cases kIx eqb k ks with
  | none => rfl
  | some j =>
    simp only [wc4, wb9, wcx]
    cases arr.toList[j]? <;> rfl
theorem wa9 (KL : zhk P key kv eqb) (ho : o.op = .mapEntry t x y) (ht : P.underlying t = some (.map key elem)) (hH : H id = ⟨ver, some (y6 (ks.map kv) bs clock cs)⟩) (hx : evP F x = .ps id ver) {k : α} (hk : ∀ (Z : ZM) (V : Nm → Value) (w : World) (v : Value), Rp Z H V w (evP F y) v → v = kv k) {j b : Nat} {c : PV} (hj : kIx eqb k ks = some j) (hc : cs[j]? = some c) (hbj : bs[j]? = some b) :
    PQ P W o F H (.tup [c, .u (.int .i64 (b : Nat))]) := wab fun V a w hw hh => by
  have hxv := hh x (by rw [ho]; simp [Op.operands])
  have hyv := hk _ _ _ _ (hh y (by rw [ho]; simp [Op.operands]))
  rw [hx] at hxv
  obtain ⟨g, arr, hv, hV, hg, hb, hkeys, hR, hborn, hnd, hlt⟩ := zdv hH hw hxv
  obtain ⟨e, he1, he2⟩ := zcm hj
  have hke := KL.beq _ _ he2
  have hjl : j < arr.toList.length := by
    have h1 := congrArg List.length hkeys
    have h2 := (wb3.1 he1).1
    simp at h1 ⊢; omega
  obtain ⟨ae, hae⟩ : ∃ ae, arr.toList[j]? = some ae := ⟨_, wb5 hjl⟩
  have hae' : arr[j]? = some ae := by simpa using hae
  have hak : ae.key = kv k := by
    have : (arr.toList.map (·.key))[j]? = (ks.map kv)[j]? := by rw [hkeys]
    rw [wb9, wb9, hae, he1] at this
    simp only [wcd, wco] at this
    rw [this, hke]
  have hab : ae.born = b := by
    have : (arr.toList.map (·.born))[j]? = bs[j]? := by rw [hborn]
    rw [wb9, hae, hbj] at this
    simpa using this
  have hsame : arr.modify j (fun e => { e with key := kv k }) = arr := by
    apply Array.ext'
    rw [Array.toList_modify, Go.ChangeMaps.modify_eq_set _ _ _ _ hae]
    have : ({ ae with key := kv k } : MapEntry) = ae := by rw [← hak]
    rw [this]
    exact WideElems.set_self _ _ _ hae
  refine ⟨.tuple #[ae.val, .int .i64 (b : Nat)], ?_, ?_⟩
  · have hks : (Instr.keyThatStays (kv k) (kv k)).run P w = .ok (kv k) w := by simp [Instr.keyThatStays, KL.bits]
    have hf := zl8 KL k w hkeys
    rw [hj, wc4, hae, wcd] at hf
    have : (Instr.mapEntry t (.map (some g)) (kv k)).run P w = .ok (.tuple #[ae.val, goInt ae.born]) w := by
      simp [Instr.mapEntry, run_underlying ht, MapKept.run_getObj_map hb, KL.chk, hf, hae', hak, hks, hsame, MapKept.run_setObj_map _ hb, z0j hb]
    simp only [execOp, ho, hv, hyv, Sem.run_bind, this, Result.andThen_ok, hab]
    rfl
  · refine .tup _ _ rfl fun i p v h1 h2 => ?_
    match i, h1, h2 with
    | 0, h1, h2 =>
      cases h1; cases h2
      exact hR.2 j c ae.val hc (by rw [wb9, hae]; rfl)
    | 1, h1, h2 => cases h1; cases h2; exact .u _
theorem zsi {V : Nm → Value} {w : World} {g : Nat} {ob : Obj} {bd : PBody} (hr : HRel P W H V w) (hH : ∃ bd, H id = ⟨ver, some bd⟩) (hV : jv (V id) = some g) (hg : W.w.heap.size ≤ g) : Turn W H V w id ⟨ver, some bd⟩ (V id) { w with heap := w.heap.setIfInBounds g ob } := by
  obtain ⟨bd0, hH⟩ := hH
  have hl : (H id).body.isSome = true := by rw [hH]; rfl
  have hother : ∀ b, b ≠ g → (w.heap.setIfInBounds g ob)[b]? = w.heap[b]? := fun b hne => by simp [Ne.symm hne]
  exact ⟨hr.below.trans ⟨rfl, rfl, rfl, by simp, fun b hb => hother b (by omega)⟩, by simp, fun b hb hn => hother b fun e => hn ⟨hl, by rw [e, hV]⟩, fun g' hg' => .inr ⟨hl, hg'⟩, .inr ⟨by rw [hH], rfl, hl⟩⟩
theorem wa4 (KL : zhk P key kv eqb) (ho : o.op = .mapEntry t x y) (hd : Jc n o) (ht : P.underlying t = some (.map key elem)) {zv : Value} (hz : ∀ w, (zeroValue elem).run P w = .ok zv w) (hH : H id = ⟨ver, some (y6 (ks.map kv) bs clock cs)⟩) (hx : evP F x = .ps id ver) {k : α} (hk : ∀ (Z : ZM) (V : Nm → Value) (w : World) (v : Value), Rp Z H V w (evP F y) v → v = kv k) (hj : kIx eqb k ks = none)
    (hK : K (.tup [.u zv, .u (.int .i64 (clock : Nat))]) (H.set id ⟨ver, some (y6 ((ks ++ [k]).map kv) (bs ++ [clock]) (clock + 1) (cs ++ [.u zv]))⟩)) : PE P W n o F H K := fun V a w hr => by
  have ev : ∀ (x : Operand), Rp W.Z H V w (evP F x) (a.eval x) := fun x => Rp.eval (P := P) x fun t _ => hr.slot t
  have hxv := ev x
  have hyv := hk _ _ _ _ (ev y)
  rw [hx] at hxv
  obtain ⟨g, arr, hv, hV, hg, hb, hkeys, hR, hborn, hnd, hlt⟩ := zdv hH hr.heap hxv
  have hgl := (wcg.1 hb).1
  have hf := zl8 KL k w hkeys
  rw [hj, Option.bind_none] at hf
  have hrun : (Instr.mapEntry t (.map (some g)) (kv k)).run P w = .ok (.tuple #[zv, goInt clock]) { w with heap := w.heap.setIfInBounds g (.map (arr.push ⟨kv k, zv, clock⟩) (clock + 1)) } := by
    simp [Instr.mapEntry, run_underlying ht, MapKept.run_getObj_map hb, KL.chk, hf, hz, MapKept.run_setObj_map _ hb]
  have hex : (execOp a.eval o).run P w = .ok (.value (.tuple #[zv, goInt clock])) { w with heap := w.heap.setIfInBounds g (.map (arr.push ⟨kv k, zv, clock⟩) (clock + 1)) } := by
    simp only [execOp, ho, hv, hyv, Sem.run_bind, hrun, Result.andThen_ok]; rfl
  have hturn : Turn W H V w id ⟨ver, some (y6 ((ks ++ [k]).map kv) (bs ++ [clock]) (clock + 1) (cs ++ [.u zv]))⟩ (V id) { w with heap := w.heap.setIfInBounds g (.map (arr.push ⟨kv k, zv, clock⟩) (clock + 1)) } := zsi hr.heap ⟨_, hH⟩ (by rw [hV]; rfl) hg
  refine ve hex ⟨_, _, vg V id (V id), hK, ?_⟩
  refine hr.turn hturn (fun bd hbd => ?_) o.dst hd (.tup _ _ rfl fun i p v h1 h2 => ?_)
  · cases hbd
    refine ⟨g, .map (arr.push ⟨kv k, zv, clock⟩) (clock + 1), _, hV, hg, by simp [hgl], ⟨arr.push ⟨kv k, zv, clock⟩, rfl, by simp [hkeys], rfl, by simp [hborn], ?_, fun b hb => ?_⟩, ?_⟩
    · rw [List.nodup_append]
      exact ⟨hnd, by simp, fun a ha c hc e => by simp at hc; have := hlt a ha; omega⟩
    · rcases wcr.1 hb with h | h
      · have := hlt b h; omega
      · simp at h; omega
    · have h1 : RpL W.Z (H.set id ⟨ver, some (y6 ((ks ++ [k]).map kv) (bs ++ [clock]) (clock + 1) (cs ++ [.u zv]))⟩) (vg V id (V id)) { w with heap := w.heap.setIfInBounds g (.map (arr.push ⟨kv k, zv, clock⟩) (clock + 1)) } cs (arr.toList.map (·.val)) := ⟨hR.1, fun i p v h3 h4 => hturn.rp (hR.2 i p v h3 h4)⟩
      have hval : (arr.push ⟨kv k, zv, clock⟩).toList.map (·.val) = arr.toList.map (·.val) ++ [zv] := by simp
      rw [hval]
      refine ⟨by rw [wch, wch, h1.1]; rfl, fun i p v h3 h4 => ?_⟩
      by_cases hi : i < cs.length
      · rw [wcc hi] at h3
        rw [wcc (by rw [← h1.1]; exact hi)] at h4
        exact h1.2 i p v h3 h4
      · rw [wce (by omega)] at h3
        rw [wce (by rw [← h1.1]; omega), ← h1.1] at h4
        match hq : i - cs.length, h3, h4 with
        | 0, h3, h4 => cases h3; cases h4; exact .u _
        | _ + 1, h3, h4 => simp at h3
  · match i, h1, h2 with
    | 0, h1, h2 => cases h1; cases h2; exact .u _
    | 1, h1, h2 => cases h1; cases h2; exact .u _
theorem PE.entryStore {kvs : List Value} {s : Operand} {p : PV} {j b : Nat} (ho : o.op = .entryStore t x s y) (hd : Jc n o) (hH : H id = ⟨ver, some (y6 kvs bs clock cs)⟩) (hx : evP F x = .ps id ver) (hs : evP F s = .u (.int .i64 (b : Nat))) (hbj : bs[j]? = some b) (hy : evP F y = p)
    (hK : K (.u undef) (H.set id ⟨ver, some (y6 kvs bs clock (cs.set j p))⟩)) : PE P W n o F H K := fun V a w hr => by
  have ev : ∀ (x : Operand), Rp W.Z H V w (evP F x) (a.eval x) := fun x => Rp.eval (P := P) x fun t _ => hr.slot t
  have hxv := ev x
  have hyv := ev y
  have hsv : a.eval s = .int .i64 (b : Nat) := by
    have := ev s
    rw [hs] at this; generalize a.eval s = q at this; cases this; rfl
  rw [hx] at hxv
  rw [hy] at hyv
  obtain ⟨g, arr, hv, hV, hg, hb, hkeys, hR, hborn, hnd, hlt⟩ := zdv hH hr.heap hxv
  have hgl := (wcg.1 hb).1
  obtain ⟨ae, hae, hab⟩ : ∃ ae, arr.toList[j]? = some ae ∧ ae.born = b := by
    have : (arr.toList.map (·.born))[j]? = some b := by rw [hborn]; exact hbj
    rw [wb9] at this
    exact wca.1 this
  have hidx : arr.findIdx? (fun e => ((e.born : Nat) : Int) == ((b : Nat) : Int)) = some j := by
    rw [WideElems.findIdx_arr, ← hab]
    exact WideElems.findIdx_born (by rw [hborn]; exact hnd) hae
  have hrun : (Instr.entryStore t (.map (some g)) (.int .i64 (b : Nat)) (a.eval y)).run P w = .ok () { w with heap := w.heap.setIfInBounds g (.map (arr.modify j fun e => { e with val := a.eval y }) clock) } := by
    simp [Instr.entryStore, MapKept.run_getObj_map hb, asInt, asIntOf, hidx, MapKept.run_setObj_map _ hb, Result.andThen]
  have hex : (execOp a.eval o).run P w = .ok .skip { w with heap := w.heap.setIfInBounds g (.map (arr.modify j fun e => { e with val := a.eval y }) clock) } := by
    simp only [execOp, ho, hv, hsv, Sem.run_bind, hrun, Result.andThen_ok]; rfl
  have hturn : Turn W H V w id ⟨ver, some (y6 kvs bs clock (cs.set j p))⟩ (V id) { w with heap := w.heap.setIfInBounds g (.map (arr.modify j fun e => { e with val := a.eval y }) clock) } := zsi hr.heap ⟨_, hH⟩ (by rw [hV]; rfl) hg
  have hmod : ∀ {γ : Type} (f : MapEntry → γ), (∀ e v, f { e with val := v } = f e) → (arr.modify j fun e => { e with val := a.eval y }).toList.map f = arr.toList.map f := fun f hf => by
    apply wdt
    intro i
    simp only [Array.toList_modify, wb9, List.getElem?_modify]
    cases arr.toList[i]? with
    | none => rfl
    | some e =>
      simp only [wcd]
      by_cases e2 : j = i
      · simp [e2, hf]
      · simp [e2]
  unfold Oper.wp
  rw [hex]
  refine ⟨.u undef, _, vg V id (V id), hK, hr.turn hturn (fun bd hbd => ?_) o.dst hd (.u _)⟩
  cases hbd
  refine ⟨g, .map (arr.modify j fun e => { e with val := a.eval y }) clock, _, hV, hg, by simp [hgl], ⟨_, rfl, by rw [hmod _ fun _ _ => rfl]; exact hkeys, rfl, by rw [hmod _ fun _ _ => rfl]; exact hborn, hnd, hlt⟩, ?_⟩
  refine ⟨by rw [wd0, hR.1]; simp, fun i q v h3 h4 => ?_⟩
  simp only [Array.toList_modify, wb9, List.getElem?_modify] at h4
  rw [wee] at h3
  by_cases e2 : j = i
  · subst e2
    rw [hae] at h4
    have h4 : a.eval y = v := by simpa using h4
    simp only [if_true] at h3
    split at h3
    · cases h3; subst h4; exact hturn.rp hyv
    · cases h3
  · rw [if_neg e2] at h3
    have h5 : (arr.toList.map (·.val))[i]? = some v := by
      rw [wb9]
      cases ha : arr.toList[i]? with
      | none => rw [ha] at h4; simp at h4
      | some e => rw [ha] at h4; simpa [e2] using h4
    exact hturn.rp (hR.2 i q v h3 h5)
theorem wbn (KL : zhk P key kv eqb) (ho : o.op = .lookup t x y false) (ht : P.underlying t = some (.map key elem)) (hH : H id = ⟨ver, some (y6 (ks.map kv) bs clock cs)⟩) (hx : evP F x = .ps id ver) {k : α} (hk : ∀ (Z : ZM) (V : Nm → Value) (w : World) (v : Value), Rp Z H V w (evP F y) v → v = kv k) {j : Nat} {c : PV} (hj : kIx eqb k ks = some j) (hc : cs[j]? = some c) :
    PQ P W o F H c := wab fun V a w hw hh => by
  have hxv := hh x (by rw [ho]; simp [Op.operands])
  have hyv := hk _ _ _ _ (hh y (by rw [ho]; simp [Op.operands]))
  rw [hx] at hxv
  obtain ⟨g, arr, hv, hV, hg, hb, hkeys, hR, hborn, hnd, hlt⟩ := zdv hH hw hxv
  obtain ⟨e, he1, he2⟩ := zcm hj
  have hjl : j < arr.toList.length := by
    have h1 := congrArg List.length hkeys
    have h2 := (wb3.1 he1).1
    simp at h1 ⊢; omega
  obtain ⟨ae, hae⟩ : ∃ ae, arr.toList[j]? = some ae := ⟨_, wb5 hjl⟩
  have hf := zl8 KL k w hkeys
  rw [hj, wc4, hae, wcd] at hf
  refine ⟨ae.val, ?_, hR.2 j c ae.val hc (by rw [wb9, hae]; rfl)⟩
  have : (Instr.lookup t (.map (some g)) (kv k) false).run P w = .ok ae.val w := by
    simp [Instr.lookup, run_underlying ht, MapKept.run_getObj_map hb, KL.chk, hf]
  simp only [execOp, ho, hv, hyv, Sem.run_bind, this, Result.andThen_ok]
  rfl
theorem wbq {kvs : List Value} {r : Nm} {d : Nat} (ho : o.op = .range t x) (hd : o.dst = some d) (hdn : d < n) (ht : P.underlying t = some (.map key elem)) (hne : id ≠ r) (hH : H id = ⟨ver, some (y6 kvs bs clock cs)⟩) (hx : evP F x = .ps id ver)
    (hK : K (.ps r ((H r).ver + 1)) (H.set r ⟨(H r).ver + 1, some (itB id ver (replicate clock false) none)⟩)) : PE P W n o F H K := fun V a w hr => by
  have hxv := Rp.eval (P := P) (F := F) (a := a) (Z := W.Z) (H := H) (V := V) (w := w) x fun t _ => hr.slot t
  have hxs := hxv
  rw [hx] at hxv hxs
  obtain ⟨g, arr, hv, hV, hg, hb, hkeys, hR, hborn, hnd, hlt⟩ := zdv hH hr.heap hxv
  have hex : (execOp a.eval o).run P w = .ok (.value (.pointer (some ⟨w.heap.size, 0, none⟩))) (w.alloc (.mapIter (some g) clock #[] clock)) := by
    simp only [execOp, ho, hv, Sem.run_bind, run_range_map w t key elem g arr clock ht hb, Result.andThen_ok]
    rfl
  refine ve hex ⟨_, _, vg V r (.pointer (some ⟨w.heap.size, 0, none⟩)), hK, ?_⟩
  have hbl : Below w.heap.size w (w.alloc (.mapIter (some g) clock #[] clock)) := (Below.refl _ _).alloc (wb7 _) _
  have hturn : Turn W H V w r ⟨(H r).ver + 1, some (itB id ver (replicate clock false) none)⟩ (.pointer (some ⟨w.heap.size, 0, none⟩)) (w.alloc (.mapIter (some g) clock #[] clock)) := Turn.new hr.heap hbl rfl fun g hg => by cases hg; exact wb7 _
  refine hr.turn hturn (fun bd hbd => ?_) o.dst (fun t ht => by rw [hd] at ht; cases ht; exact hdn) ?_
  · cases hbd
    refine ⟨w.heap.size, _, [.map (some g)], rfl, hr.heap.below.size, heap_alloc_new w _, ⟨g, #[], rfl, by rw [wb4], fun i => ?_, fun j h => by cases h⟩, rfl, fun i p v h1 h2 => ?_⟩
    · rw [List.getElem?_replicate]; split <;> simp
    · match i, h1, h2 with
      | 0, h1, h2 =>
        cases h1; cases h2
        have := hturn.rp hxs
        rwa [hv] at this
  · refine .ps _ _ _ ?_ fun _ _ => ?_
    · simp [PHeap.set]
    · simp [vg]
theorem z4r {r : Nm} {vr : Nat} {mask : List Bool} {last : Option Nat} {kvs : List Value} {V : Nm → Value} {w : World} {v : Value} (hH : H id = ⟨ver, some (y6 kvs bs clock cs)⟩) (hHr : H r = ⟨vr, some (itB id ver mask last)⟩) (hr : HRel P W H V w) (hv : Rp W.Z H V w (.ps r vr) v) :
    ∃ (gr g : Nat) (arr : Array MapEntry) (seen : Array Nat), v = .pointer (some ⟨gr, 0, none⟩) ∧ V r = .pointer (some ⟨gr, 0, none⟩) ∧ W.w.heap.size ≤ gr ∧ w.heap[gr]? = some (.mapIter (some g) mask.length seen mask.length) ∧ ((∀ i, seen.contains i = (mask[i]?).getD false) ∧ ∀ j, last = some j → ∃ s0 : Array Nat, seen = s0.push j) ∧ Rp W.Z H V w (.ps id ver) (.map (some g)) ∧ w.heap[g]? = some (.map arr clock) ∧ arr.toList.map (·.key) = kvs ∧ RpL W.Z H V w cs (arr.toList.map (·.val)) ∧ arr.toList.map (·.born) = bs ∧ bs.Nodup ∧ ∀ b ∈ bs, b < clock := by
  obtain ⟨gr, o, vs, e, hg, hh, ⟨b, seen, rfl, rfl, hs⟩, hR⟩ := hr.map r true _ _ (by rw [hHr]; rfl)
  have hm := hR.2 0 _ _ rfl rfl
  obtain ⟨g, arr, hv2, hV, hg2, hb, hrest⟩ := zdv hH hr hm
  cases hv2
  cases hv with
  | ps _ _ _ hvv hq =>
    have := hq (by rw [hHr]; rfl) (by rw [hHr])
    exact ⟨gr, _, arr, seen, by rw [this, e]; rfl, e, hg, hh, hs, hm, hb, hrest⟩
theorem wbx {r : Nm} {vr m : Nat} {mask : List Bool} {last : Option Nat} {kvs : List Value} (ho : o.op = .next x false) (hd : Jc n o) (hH : H id = ⟨ver, some (y6 kvs (range m) m cs)⟩) (hHr : H r = ⟨vr, some (itB id ver mask last)⟩) (hm : mask.length = m) (hx : evP F x = .ps r vr)
    (h0 : (∀ i, i < m → mask[i]? = some true) → K (.tup [.u (.bool false)]) H)
    (h1 : ∀ (j : Nat) (c : PV) (k : Value), j < m → cs[j]? = some c → kvs[j]? = some k → mask[j]? = some false → K (.tup [.u (.bool true), ofV k, c]) (H.set r ⟨vr, some (itB id ver (mask.set j true) (some j))⟩)) : PE P W n o F H K := fun V a w hr => by
  have hxv := Rp.eval (P := P) (F := F) (a := a) (Z := W.Z) (H := H) (V := V) (w := w) x fun t _ => hr.slot t
  rw [hx] at hxv
  obtain ⟨gr, g, arr, seen, hv, hV, hgr, hbr, ⟨hsm, _⟩, hmp, hb, hkeys, hR, hborn, hnd, hlt⟩ := z4r hH hHr hr.heap hxv
  rw [hm] at hbr
  have hgl := (wcg.1 hbr).1
  have hold : ∀ x ∈ arr.toList, x.born < m := fun x hx => hlt _ (by rw [← hborn]; exact wcf.2 ⟨x, hx, rfl⟩)
  rcases run_next_at (P := P) w o.type gr g m m seen arr m hbr hb hold (wb7 _) with ⟨hs, hrun⟩ | ⟨e, he, w1, hw1, hrun⟩
  · have hex : (execOp a.eval o).run P w = .ok (.value (.tuple #[.bool false])) w := by
      simp only [execOp, ho, hv, Sem.run_bind, hrun, Result.andThen_ok]; rfl
    refine ve hex ⟨_, _, V, h0 fun i hi => ?_, hr.put (Below.refl _ _) o.dst hd (.tup _ _ rfl fun i p v h1 h2 => ?_)⟩
    · have hi2 : i ∈ arr.toList.map (·.born) := by rw [hborn]; exact wdw.2 hi
      obtain ⟨x, hx, rfl⟩ := wcf.1 hi2
      have h3 := all_seen arr seen hs x hx
      rw [hsm] at h3
      rw [wb5 (by rw [hm]; exact hi)] at h3 ⊢
      simpa using h3
    · match i, h1, h2 with
      | 0, h1, h2 => cases h1; cases h2; exact .u _
  · obtain ⟨hea, hes⟩ := mem_left he
    obtain ⟨j, hj⟩ := List.getElem?_of_mem hea
    have hkj : kvs[j]? = some e.key := by rw [← hkeys, wb9, hj]; rfl
    have hbj : (range m)[j]? = some e.born := by rw [← hborn, wb9, hj]; rfl
    have hjm : j < m := by have := (wb3.1 hbj).1; simpa using this
    have hje : e.born = j := by rw [wb5 (by simpa using hjm)] at hbj; simpa using hbj.symm
    have hvj : (arr.toList.map (·.val))[j]? = some e.val := by rw [wb9, hj]; rfl
    obtain ⟨c, hcj⟩ : ∃ c, cs[j]? = some c := ⟨_, wb5 (by rw [hR.1]; exact (wb3.1 hvj).1)⟩
    rw [hje] at hrun hes
    have hmj : mask[j]? = some false := by
      rw [hsm] at hes
      rw [wb5 (by rw [hm]; exact hjm)] at hes ⊢
      simpa using hes
    have hex : (execOp a.eval o).run P w = .ok (.value (.tuple #[.bool true, e.key, e.val])) (Go.ChangeMaps.setBlock w1 gr (.mapIter (some g) m (seen.push j) m)) := by
      simp only [execOp, ho, hv, Sem.run_bind, hrun, Result.andThen_ok]; rfl
    have hw1h : w1.heap = w.heap := by rcases hw1 with rfl | rfl <;> rfl
    have hw1b : ∀ {B : Nat} {a : World}, Below B a w → Below B a w1 := fun {B a} h => by rcases hw1 with rfl | rfl; exact h; exact h.trans ⟨rfl, rfl, rfl, wb7 _, fun _ _ => rfl⟩
    have hl : (H r).body.isSome = true := by rw [hHr]; rfl
    have hother : ∀ b, b ≠ gr → (Go.ChangeMaps.setBlock w1 gr (.mapIter (some g) m (seen.push j) m)).heap[b]? = w.heap[b]? := fun b hne => by
      unfold Go.ChangeMaps.setBlock
      simp only [hw1h]
      simp [Ne.symm hne]
    have hturn : Turn W H V w r ⟨vr, some (itB id ver (mask.set j true) (some j))⟩ (V r) (Go.ChangeMaps.setBlock w1 gr (.mapIter (some g) m (seen.push j) m)) :=
      ⟨(hw1b hr.heap.below).trans ⟨rfl, rfl, rfl, by simp [Go.ChangeMaps.setBlock], fun b hb => by rw [hother b (by omega), hw1h]⟩, by simp [Go.ChangeMaps.setBlock, hw1h], fun b hb hn => hother b fun e => hn ⟨hl, by rw [e, hV]; rfl⟩, fun g' hg' => .inr ⟨hl, hg'⟩, .inr ⟨by rw [hHr], rfl, hl⟩⟩
    refine ve hex ⟨_, _, vg V r (V r), h1 j c e.key hjm hcj hkj hmj, ?_⟩
    refine hr.turn hturn (fun bd hbd => ?_) o.dst hd (.tup _ _ rfl fun i p v h1 h2 => ?_)
    · cases hbd
      refine ⟨gr, .mapIter (some g) m (seen.push j) m, [.map (some g)], hV, hgr, by simp [Go.ChangeMaps.setBlock, hw1h, hgl], ⟨g, seen.push j, rfl, by rw [wd0, hm], fun i => ?_, fun i hi => ?_⟩, rfl, fun i p v h3 h4 => ?_⟩
      · rw [wee]
        have hp : (seen.push j).contains i = (seen.contains i || i == j) := by simp only [Array.contains_push, Bool.or_comm]
        rw [hp, hsm]
        by_cases e : j = i
        · subst e; rw [if_pos rfl, if_pos (by rw [hm]; exact hjm)]; simp
        · rw [if_neg e]; simp [Ne.symm e]
      · cases hi; exact ⟨seen, rfl⟩
      · match i, h3, h4 with
        | 0, h3, h4 => cases h3; cases h4; exact hturn.rp hmp
    · match i, h1, h2 with
      | 0, h1, h2 => cases h1; cases h2; exact .u _
      | 1, h1, h2 => cases h1; cases h2; exact Rp.ofV _ _ _ _ _
      | 2, h1, h2 => cases h1; cases h2; exact hturn.rp (hR.2 j c e.val hcj hvj)
theorem wbo {r : Nm} {vr j m : Nat} {mask : List Bool} {kvs : List Value} {c : PV} {k : Value} (ho : o.op = .entry x) (hH : H id = ⟨ver, some (y6 kvs (range m) m cs)⟩) (hHr : H r = ⟨vr, some (itB id ver mask (some j))⟩) (hm : mask.length = m) (hx : evP F x = .ps r vr) (hj : j < m) (hc : cs[j]? = some c) (hk : kvs[j]? = some k) : PQ P W o F H (.tup [ofV k, c]) := wab fun V a w hw hh => by
  have hxv := hh x (by rw [ho]; simp [Op.operands])
  rw [hx] at hxv
  obtain ⟨gr, g, arr, seen, hv, hV, hgr, hbr, ⟨_, hs⟩, hmp, hbm, hkeys, hR, hborn, hnd, hlt⟩ := z4r hH hHr hw hxv
  obtain ⟨s0, rfl⟩ := hs j rfl
  obtain ⟨e, hje, heb⟩ : ∃ e, arr.toList[j]? = some e ∧ e.born = j := by
    have hb : (arr.toList.map (·.born))[j]? = some j := by rw [hborn]; simp [hj]
    rw [wb9] at hb
    exact wca.1 hb
  have hkj : e.key = k := by rw [← hkeys, wb9, hje] at hk; simpa using hk
  rw [← heb] at hbr
  have hrun := run_entry_at (P := P) w gr g mask.length s0 arr mask.length e hbr (by rw [hm]; exact hbm) (wb8 hje) (by rw [hborn]; exact hnd)
  refine ⟨.tuple #[e.key, e.val], ?_, .tup _ _ rfl fun i p v h1 h2 => ?_⟩
  · simp only [execOp, ho, hv, Sem.run_bind, hrun, Result.andThen_ok]; rfl
  · match i, h1, h2 with
    | 0, h1, h2 => cases h1; cases h2; rw [hkj]; exact Rp.ofV _ _ _ _ _
    | 1, h1, h2 => cases h1; cases h2; exact hR.2 j c e.val hc (by rw [wb9, hje]; rfl)
end
end
end Go.Proofs.YtiafpechgjopfaaGreatDoor.L
namespace Go.Proofs.YtiafpechgjopfaaGreatDoor.T
noncomputable section
set_option maxRecDepth 100000
set_option maxHeartbeats 8000000
set_option linter.unusedVariables false
set_option linter.unusedSimpArgs false
set_option linter.defProp false
open List (replicate range)
open Go Go.RowKit L
inductive Ty where
  | int (k : IntKind)
  | bool
  | str
  | sl (t : Ty)
  | ref (t : Ty)
  | arr (n : Nat) (t : Ty)
  | nil
  | cons (a r : Ty)
  | st (r : Ty)
  | tup (r : Ty)
structure Arr (n : Nat) (α : Type) where
  l : List α
  h : l.length = n
@[reducible] def Ty.D : Ty → Type
  | .int _ => Int
  | .bool => Bool
  | .str => List UInt8
  | .sl t => List t.D
  | .ref t => Option t.D
  | .arr n t => Arr n t.D
  | .nil => Unit
  | .cons a r => a.D × r.D
  | .st r => r.D
  | .tup r => r.D
def ikB : IntKind → IntKind → Bool
  | .i8, .i8 | .i16, .i16 | .i32, .i32 | .i64, .i64 | .u8, .u8 | .u16, .u16 | .u32, .u32 | .u64, .u64 => true
  | _, _ => false
theorem zp2 {a b : IntKind} (h : ikB a b = true) : a = b := by cases a <;> cases b <;> first | rfl | cases h
def Ty.eqB : Ty → Ty → Bool
  | .int k, .int k' => ikB k k'
  | .bool, .bool => true
  | .str, .str => true
  | .sl a, .sl b => a.eqB b
  | .ref a, .ref b => a.eqB b
  | .arr n a, .arr m b => Nat.beq n m && a.eqB b
  | .nil, .nil => true
  | .cons a r, .cons b s => a.eqB b && r.eqB s
  | .st r, .st s => r.eqB s
  | .tup r, .tup s => r.eqB s
  | _, _ => false
theorem Ty.eqB_eq : ∀ {a b : Ty}, a.eqB b = true → a = b
  | .int k, b, h => by cases b <;> simp only [eqB] at h <;> first | (rw [zp2 h]) | cases h
  | .bool, b, h => by cases b <;> simp only [eqB] at h <;> first | rfl | cases h
  | .str, b, h => by cases b <;> simp only [eqB] at h <;> first | rfl | cases h
  | .sl a, b, h => by cases b <;> simp only [eqB] at h <;> first | (rw [eqB_eq h]) | cases h
  | .ref a, b, h => by cases b <;> simp only [eqB] at h <;> first | (rw [eqB_eq h]) | cases h
  | .arr n a, b, h => by
    cases b <;> simp only [eqB] at h <;> first | (rw [wb6] at h; rw [eqB_eq h.2, wb2 h.1]) | cases h
  | .nil, b, h => by cases b <;> simp only [eqB] at h <;> first | rfl | cases h
  | .cons a r, b, h => by
    cases b <;> simp only [eqB] at h <;> first | (rw [wb6] at h; rw [eqB_eq h.1, eqB_eq h.2]) | cases h
  | .st r, b, h => by cases b <;> simp only [eqB] at h <;> first | (rw [eqB_eq h]) | cases h
  | .tup r, b, h => by cases b <;> simp only [eqB] at h <;> first | (rw [eqB_eq h]) | cases h
def castD {a b : Ty} (h : a = b) (x : a.D) : b.D := h ▸ x
def zzt (a b : Ty) (x : a.D) : Option b.D := match h : a.eqB b with
  | true => some (castD (Ty.eqB_eq h) x)
  | false => none
def wid : Ty → Nat
  | .arr n t => n * wid t
  | .nil => 0
  | .cons a r => wid a + wid r
  | .st r => wid r
  | _ => 1
def zq : Ty → Bool
  | .arr _ _ => true
  | .nil => true
  | .cons _ _ => true
  | .st _ => true
  | _ => false
def mkV (t : Ty) (cs : List PV) : PV := match zq t with
  | true => .agg cs
  | false => cs.headD .unk
def q5 : Ty → List PV → List PV
  | .cons a r, cs => mkV a (cs.take (wid a)) :: q5 r (cs.drop (wid a))
  | _, _ => []
def je : (t : Ty) → t.D → List PV
  | .int k, z => [.u (.int k z)]
  | .bool, b => [.u (.bool b)]
  | .str, s => [.u (.string ⟨⟨s⟩⟩)]
  | .sl t, l => [.sl (wid t) (l.map fun x => mkV t (je t x))]
  | .ref t, o => [match o with
    | none => .u (.pointer none)
    | some x => .rp (je t x)]
  | .arr _ t, v => v.l.flatMap (je t)
  | .nil, _ => []
  | .cons a r, x => je a x.1 ++ je r x.2
  | .st r, x => je r x
  | .tup r, x => [.tup (q5 r (je r x))]
def enc (t : Ty) (x : t.D) : PV := mkV t (je t x)
theorem ye {α : Type} (f : α → List PV) (k : Nat) : ∀ (l : List α), (∀ x ∈ l, (f x).length = k) → (l.flatMap f).length = l.length * k
  | [], _ => by simp
  | a :: l, h => by
    rw [wci, wch, h a (by simp), ye f k l (fun x hx => h x (by simp [hx]))]
    simp [wek, Nat.add_comm]
theorem jn : ∀ (t : Ty) (x : t.D), (je t x).length = wid t
  | .int _, _ => rfl
  | .bool, _ => rfl
  | .str, _ => rfl
  | .sl _, _ => rfl
  | .ref _, _ => rfl
  | .arr n t, v => by simp only [je, wid]; rw [ye _ (wid t) v.l fun x _ => jn t x, v.h]
  | .nil, _ => rfl
  | .cons a r, x => by simp only [je, wid, wch, jn a, jn r]
  | .st r, x => by simp only [je, wid]; exact jn r x
  | .tup _, _ => rfl
theorem zyg (t : Ty) (x : t.D) : (mkV t (je t x)).cells = je t x := by
  cases t <;> first | rfl | (simp only [je, mkV, zq]; split <;> rfl)
theorem qc (t : Ty) (x : t.D) : (enc t x).cells = je t x := zyg t x
theorem Jl (t : Ty) (l : List t.D) : (l.map (enc t)).flatMap PV.cells = l.flatMap (je t) := by
  rw [List.flatMap_map]; exact congrArg (fun f => l.flatMap f) (funext fun x => qc t x)
theorem zby (t : Ty) (l : List t.D) : enc (.sl t) l = .sl (wid t) (l.map (enc t)) := rfl
theorem zpl {t : Ty} {cs : List PV} (h : ∀ c ∈ cs, NoP c) (hl : zq t = false → cs ≠ []) : NoP (mkV t cs) := by
  unfold mkV
  cases hi : zq t
  · cases cs with
    | nil => exact absurd rfl (hl hi)
    | cons c cs => exact h c (by simp)
  · exact .agg _ h
theorem Z4 {t : Ty} (h : zq t = false) : wid t = 1 := by cases t <;> first | rfl | cases h
theorem zex {P : PV → Prop} : ∀ (r : Ty) (cs : List PV), cs.length = wid r → (∀ c ∈ cs, P c) → (∀ {t : Ty} {ds : List PV}, (∀ c ∈ ds, P c) → (zq t = false → ds ≠ []) → P (mkV t ds)) → ∀ p ∈ q5 r cs, P p
  | .cons a r, cs, hl, h, hm, p, hp => by
    simp only [q5, wck] at hp
    rcases hp with rfl | hp
    · refine hm (fun c hc => h c (wdx hc)) fun ha e => ?_
      have : (cs.take (wid a)).length = 0 := by rw [e]; rfl
      simp only [wid] at hl
      rw [wdf, Z4 ha] at this
      have := Z4 ha
      omega
    · refine zex r _ ?_ (fun c hc => h c (weg hc)) hm p hp
      simp only [wid] at hl
      rw [wd9]; omega
  | .int _, _, _, _, _, p, hp => by simp [q5] at hp
  | .bool, _, _, _, _, p, hp => by simp [q5] at hp
  | .str, _, _, _, _, p, hp => by simp [q5] at hp
  | .sl _, _, _, _, _, p, hp => by simp [q5] at hp
  | .ref _, _, _, _, _, p, hp => by simp [q5] at hp
  | .arr _ _, _, _, _, _, p, hp => by simp [q5] at hp
  | .nil, _, _, _, _, p, hp => by simp [q5] at hp
  | .st _, _, _, _, _, p, hp => by simp [q5] at hp
  | .tup _, _, _, _, _, p, hp => by simp [q5] at hp
theorem zkn {t : Ty} (x : t.D) (h : zq t = false) : je t x ≠ [] := fun e => by
  have := jn t x
  rw [e, Z4 h] at this; cases this
theorem q7 : ∀ (t : Ty) (x : t.D), ∀ c ∈ je t x, NoP c
  | .int _, _, c, h => by simp only [je, wcb] at h; subst h; exact .u _
  | .bool, _, c, h => by simp only [je, wcb] at h; subst h; exact .u _
  | .str, _, c, h => by simp only [je, wcb] at h; subst h; exact .u _
  | .sl t, l, c, h => by
    simp only [je, wcb] at h; subst h
    refine .sl _ _ fun c hc => ?_
    obtain ⟨x, _, rfl⟩ := wcf.1 hc
    exact zpl (q7 t x) (zkn x)
  | .ref t, o, c, h => by
    simp only [je, wcb] at h; subst h
    cases o with
    | none => exact .u _
    | some x => exact .rp _ (q7 t x)
  | .arr n t, v, c, h => by
    simp only [je] at h
    obtain ⟨x, _, hx⟩ := wcu.1 h
    exact q7 t x c hx
  | .nil, _, c, h => by simp [je] at h
  | .cons a r, x, c, h => by
    simp only [je, wcr] at h
    rcases h with h | h
    · exact q7 a _ c h
    · exact q7 r _ c h
  | .st r, x, c, h => by simp only [je] at h; exact q7 r _ c h
  | .tup r, x, c, h => by
    simp only [je, wcb] at h; subst h
    exact .tup _ (zex r _ (jn r x) (q7 r x) fun h1 h2 => zpl h1 h2)
theorem Qw (t : Ty) (x : t.D) : NoP (enc t x) := zpl (q7 t x) (zkn x)
def Ya : Ty → Bool
  | .arr _ t => Ya t
  | .cons a r => Ya a && Ya r
  | .st r => Ya r
  | .tup _ => false
  | _ => true
theorem Y6 : ∀ (t : Ty) (x : t.D) (H : PHeap), Ya t = true → ∀ c ∈ je t x, yj H c = true
  | .int _, _, H, _, c, h => by simp only [je, wcb] at h; subst h; rfl
  | .bool, _, H, _, c, h => by simp only [je, wcb] at h; subst h; rfl
  | .str, _, H, _, c, h => by simp only [je, wcb] at h; subst h; rfl
  | .sl t, l, H, _, c, h => by simp only [je, wcb] at h; subst h; rfl
  | .ref t, o, H, _, c, h => by
    simp only [je, wcb] at h; subst h
    cases o <;> rfl
  | .arr n t, v, H, ht, c, h => by
    simp only [je] at h
    obtain ⟨x, _, hx⟩ := wcu.1 h
    exact Y6 t x H (by simpa [Ya] using ht) c hx
  | .nil, _, H, _, c, h => by simp [je] at h
  | .cons a r, x, H, ht, c, h => by
    simp only [Ya, wb6] at ht
    simp only [je, wcr] at h
    rcases h with h | h
    · exact Y6 a _ H ht.1 c h
    · exact Y6 r _ H ht.2 c h
  | .st r, x, H, ht, c, h => by simp only [je] at h; exact Y6 r _ H (by simpa [Ya] using ht) c h
  | .tup r, x, H, ht, c, h => by simp [Ya] at ht
structure Dyn where
  t : Ty
  x : t.D
def Dyn.pv (d : Dyn) : PV := enc d.t d.x
def Dyn.as (d : Dyn) (t : Ty) : Option t.D := zzt d.t t d.x
theorem wac {d : Dyn} {t : Ty} {x : t.D} (h : d.as t = some x) : d = ⟨t, x⟩ := by
  obtain ⟨t', y⟩ := d
  unfold Dyn.as zzt at h
  simp only at h
  split at h
  · rename_i he
    have := Ty.eqB_eq he
    subst this
    cases h
    rfl
  · cases h
inductive TS where
  | v (d : Dyn)                               -- told data
  | c (v : Value)                             -- a constant
  | own (id ver : Nat)                        -- the slice, or map, that an own block is
  | q (id k off ver : Nat)                    -- that slice from an element on
  | pt (id off ver : Nat)                     -- a pointer into an own block
  | elt (id k : Nat) (i : Int) (off ver : Nat) -- a pointer into an element of an own block
  | kid (id : Nat) (p : Int) (v : Nat)        -- an own row's element that is an own row
  | kel (id : Nat) (p : Int) (k : Nat) (i : Int) (off v : Nat) -- a pointer into an element of it
  | rd (d : Dyn)                              -- a pointer to told data
  | dead
  | fn (f : Fn) (a b : List TS)
  | agg (xs : List TS)                        -- a struct: parts, one behind the other
  | tup (xs : List TS)
  deriving Inhabited
mutual
def TS.den : TS → PV
  | .v d => enc d.t d.x
  | .c v => ofV v
  | .own id ver => .ps (.o id) ver
  | .q id k off ver => .qs (.o id) off k ver
  | .pt id off ver => .pp (.o id) off ver
  | .elt id k i off ver => .pp (.o id) (i.toNat * k + off) ver
  | .kid id p v => .ps (.c id p.toNat) v
  | .kel id p k i off v => .pp (.c id p.toNat) (i.toNat * k + off) v
  | .rd d => .rp (je d.t d.x)
  | .dead => .unk
  | .fn f a b => .fn f (q8 a) (q8 b)
  | .agg xs => .agg (jo xs)
  | .tup xs => .tup (q8 xs)
def q8 : List TS → List PV
  | [] => []
  | x :: xs => x.den :: q8 xs
def jo : List TS → List PV
  | [] => []
  | x :: xs => x.den.cells ++ jo xs
end
theorem Zf (xs : List TS) : q8 xs = xs.map TS.den := by
  induction xs with
  | nil => simp only [q8, wdh]
  | cons x xs ih => simp only [q8, wcj, ih]
theorem zhn (xs : List TS) : jo xs = xs.flatMap fun x => x.den.cells := by
  induction xs with
  | nil => simp only [jo, wel]
  | cons x xs ih => simp only [jo, wci, ih]
theorem zik (xs ys : List TS) : jo (xs ++ ys) = jo xs ++ jo ys := by simp only [zhn, wdc]
theorem zte (a b : List TS) : q8 (a ++ b) = q8 a ++ q8 b := by simp only [Zf, wdu]
def zyy : Value → Nat
  | .agg vs => vs.size
  | _ => 1
mutual
def Jo : TS → Nat
  | .v d => wid d.t
  | .c v => zyy v
  | .agg xs => zyw xs
  | _ => 1
def zyw : List TS → Nat
  | [] => 0
  | x :: xs => Jo x + zyw xs
end
mutual
theorem zbu : ∀ s : TS, s.den.cells.length = Jo s
  | .v d => by simp only [TS.den, Jo, qc, jn]
  | .c v => by simp only [TS.den, Jo]; cases v <;> simp [ofV, PV.cells, zyy]
  | .own _ _ => by simp only [TS.den, Jo, PV.cells, wcw]
  | .q _ _ _ _ => by simp only [TS.den, Jo, PV.cells, wcw]
  | .pt _ _ _ => by simp only [TS.den, Jo, PV.cells, wcw]
  | .elt _ _ _ _ _ => by simp only [TS.den, Jo, PV.cells, wcw]
  | .kid _ _ _ => by simp only [TS.den, Jo, PV.cells, wcw]
  | .kel _ _ _ _ _ _ => by simp only [TS.den, Jo, PV.cells, wcw]
  | .rd _ => by simp only [TS.den, Jo, PV.cells, wcw]
  | .dead => by simp only [TS.den, Jo, PV.cells, wcw]
  | .fn _ _ _ => by simp only [TS.den, Jo, PV.cells, wcw]
  | .agg xs => by simp only [TS.den, Jo, PV.cells]; exact zsc xs
  | .tup _ => by simp only [TS.den, Jo, PV.cells, wcw]
theorem zsc : ∀ xs : List TS, (jo xs).length = zyw xs
  | [] => by simp only [jo, zyw, wdj]
  | x :: xs => by simp only [jo, zyw, wch, zbu x, zsc xs]
end
def Ref (p q : PV) : Prop := ∀ (Z : ZM) (H : PHeap) (V : Nm → Value) (w : World) (v : Value), Rp Z H V w p v → Rp Z H V w q v
theorem Ref.refl (p : PV) : Ref p p := fun _ _ _ _ _ h => h
theorem Ref.unk (p : PV) : Ref p .unk := fun _ _ _ _ v _ => .unk v
def RefL (ps qs : List PV) : Prop := ps.length = qs.length ∧ ∀ (i : Nat) (p q : PV), ps[i]? = some p → qs[i]? = some q → Ref p q
theorem RefL.refl (ps : List PV) : RefL ps ps := ⟨rfl, fun i p q h1 h2 => by rw [h1] at h2; cases h2; exact Ref.refl p⟩
theorem RefL.nil : RefL [] [] := RefL.refl []
theorem RefL.cons {p q : PV} {ps qs : List PV} (h : Ref p q) (hs : RefL ps qs) : RefL (p :: ps) (q :: qs) := ⟨by simp [hs.1], fun i a b h1 h2 => by
  cases i with
  | zero => simp at h1 h2; subst h1 h2; exact h
  | succ i => exact hs.2 i a b (by simpa using h1) (by simpa using h2)⟩
theorem RefL.append {a b c d : List PV} (h1 : RefL a b) (h2 : RefL c d) : RefL (a ++ c) (b ++ d) := ⟨by simp [h1.1, h2.1], fun i p q h3 h4 => by
  by_cases hi : i < a.length
  · rw [wcc hi] at h3
    rw [wcc (by rw [← h1.1]; exact hi)] at h4
    exact h1.2 i p q h3 h4
  · rw [wce (by omega)] at h3
    rw [wce (by rw [← h1.1]; omega), ← h1.1] at h4
    exact h2.2 _ p q h3 h4⟩
theorem RefL.take {a b : List PV} (h : RefL a b) (k : Nat) : RefL (a.take k) (b.take k) := ⟨by simp [h.1], fun i p q h1 h2 => by
  rw [wc6] at h1 h2
  split at h1
  · rename_i hi; rw [if_pos hi] at h2; exact h.2 i p q h1 h2
  · cases h1⟩
theorem RefL.drop {a b : List PV} (h : RefL a b) (k : Nat) : RefL (a.drop k) (b.drop k) := ⟨by simp [h.1], fun i p q h1 h2 => by
  rw [wcv] at h1 h2; exact h.2 _ p q h1 h2⟩
theorem RefL.rpL {ps qs : List PV} (h : RefL ps qs) {Z : ZM} {H : PHeap} {V : Nm → Value} {w : World} {vs : List Value} (hv : RpL Z H V w ps vs) : RpL Z H V w qs vs := ⟨by rw [← h.1]; exact hv.1, fun i q v h1 h2 => by
  have hi : i < ps.length := by rw [h.1]; exact (wb3.1 h1).1
  exact h.2 i _ q (wb5 hi) h1 _ _ _ _ _ (hv.2 i _ v (wb5 hi) h2)⟩
theorem Ref.agg {ps qs : List PV} (h : RefL ps qs) : Ref (.agg ps) (.agg qs) := fun Z H V w v hv => by
  cases hv with
  | agg _ vs hl hh =>
    have := h.rpL (Z := Z) (H := H) (V := V) (w := w) (vs := vs.toList) ⟨by simpa using hl, fun i p v h1 h2 => hh i p v h1 (by simpa using h2)⟩
    exact .agg _ _ (by simpa using this.1) fun i p v h1 h2 => this.2 i p v h1 (by simpa using h2)
theorem Ref.tup {ps qs : List PV} (h : RefL ps qs) : Ref (.tup ps) (.tup qs) := fun Z H V w v hv => by
  cases hv with
  | tup _ vs hl hh =>
    have := h.rpL (Z := Z) (H := H) (V := V) (w := w) (vs := vs.toList) ⟨by simpa using hl, fun i p v h1 h2 => hh i p v h1 (by simpa using h2)⟩
    exact .tup _ _ (by simpa using this.1) fun i p v h1 h2 => this.2 i p v h1 (by simpa using h2)
theorem wbc (k : Nat) (a : Option Addr) (c : Nat) : Ref (.u (.slice a 0 c)) (.sl k []) := fun Z H V w v hv => by cases hv; exact .nil _ _ _
def Z1 : (r : Ty) → r.D → List TS
  | .cons a r, x => .v ⟨a, x.1⟩ :: Z1 r x.2
  | .nil, _ => []
  | .st r, x => [.v ⟨.st r, x⟩]
  | .tup r, x => [.v ⟨.tup r, x⟩]
  | .int k, x => [.v ⟨.int k, x⟩]
  | .bool, x => [.v ⟨.bool, x⟩]
  | .str, x => [.v ⟨.str, x⟩]
  | .sl t, x => [.v ⟨.sl t, x⟩]
  | .ref t, x => [.v ⟨.ref t, x⟩]
  | .arr n t, x => [.v ⟨.arr n t, x⟩]
theorem zhp : ∀ (r : Ty) (x : r.D), jo (Z1 r x) = je r x
  | .cons a r, x => by simp only [Z1, jo, TS.den, qc, je]; rw [zhp r]
  | .nil, _ => by simp only [Z1, jo, je]
  | .st r, x => by simp only [Z1, jo, TS.den, qc, wcl]
  | .tup r, x => by simp only [Z1, jo, TS.den, qc, wcl]
  | .int k, x => by simp only [Z1, jo, TS.den, qc, wcl]
  | .bool, x => by simp only [Z1, jo, TS.den, qc, wcl]
  | .str, x => by simp only [Z1, jo, TS.den, qc, wcl]
  | .sl t, x => by simp only [Z1, jo, TS.den, qc, wcl]
  | .ref t, x => by simp only [Z1, jo, TS.den, qc, wcl]
  | .arr n t, x => by simp only [Z1, jo, TS.den, qc, wcl]
def zfd : TS → Option (List TS)
  | .v ⟨.st r, x⟩ => some (Z1 r x)
  | .v ⟨.cons a r, x⟩ => some (Z1 (.cons a r) x)
  | .agg xs => some xs
  | .c (.agg vs) => some (vs.toList.map .c)
  | _ => none
def zw : TS → Bool
  | .v d => zq d.t
  | .c (.agg _) => true
  | .agg _ => true
  | _ => false
theorem zxz {v : Value} (h : ∀ vs, v ≠ .agg vs) : (ofV v).cells = [.u v] := by cases v <;> first | rfl | exact absurd rfl (h _)
theorem zxh {s : TS} {xs : List TS} (h : zfd s = some xs) (hc : ∀ vs, s = .c (.agg vs) → vs.toList.all Value.oneCell' = true) : s.den = .agg (jo xs) := by
  unfold zfd at h
  split at h
  · cases h; simp only [TS.den, zhp]; rfl
  · cases h; simp only [TS.den, zhp]; rfl
  · cases h; simp only [TS.den]
  · rename_i vs
    cases h
    have h1 := hc vs rfl
    rw [wcz] at h1
    simp only [TS.den, ofV, zhn, List.flatMap_map]
    congr 1
    have key : ∀ l : List Value, (∀ v ∈ l, v.oneCell' = true) → l.map PV.u = l.flatMap fun v => (ofV v).cells := by
      intro l
      induction l with
      | nil => intro _; rfl
      | cons v l ih =>
        intro h1
        rw [wcj, wci, ih fun u hu => h1 u (by simp [hu]), zxz]
        · rfl
        · rintro us rfl
          have := h1 (.agg us) (by simp)
          simp [Value.oneCell'] at this
    exact key _ h1
  · cases h
def zou : TS → Bool
  | .c (.agg vs) => vs.toList.all Value.oneCell'
  | _ => true
theorem Zd {s : TS} {xs : List TS} (h : zfd s = some xs) (hc : zou s = true) : s.den = .agg (jo xs) := zxh h fun vs e => by subst e; exact hc
def Jt : Nat → Nat → List TS → Option (List TS × List TS)
  | _, 0, xs => some ([], xs)
  | 0, _, _ => none
  | _ + 1, _ + 1, [] => none
  | f + 1, k + 1, x :: xs => match Nat.ble (Jo x) (k + 1) with
    | true => match Jt f (k + 1 - Jo x) xs with
      | some r => some (x :: r.1, r.2)
      | none => none
    | false => match zou x with
      | true => match zfd x with
        | some ys => Jt f (k + 1) (ys ++ xs)
        | none => none
      | false => none
theorem zd : ∀ (f k : Nat) (xs : List TS) (r : List TS × List TS), Jt f k xs = some r → jo r.1 ++ jo r.2 = jo xs ∧ (jo r.1).length = k
  | 0, 0, xs, r, h => by simp only [Jt] at h; cases h; simp only [jo, wc2, wdj, and_self]
  | _ + 1, 0, xs, r, h => by simp only [Jt] at h; cases h; simp only [jo, wc2, wdj, and_self]
  | 0, _ + 1, xs, r, h => by simp [Jt] at h
  | f + 1, k + 1, [], r, h => by simp [Jt] at h
  | f + 1, k + 1, x :: xs, r, h => by
    simp only [Jt] at h
    split at h
    · rename_i hb
      have hle := wc0 hb
      split at h
      · rename_i r' hr
        cases h
        obtain ⟨h1, h2⟩ := zd f _ xs r' hr
        simp only [jo, wcq, h1, wch, h2, zbu, true_and]
        omega
      · cases h
    · split at h <;> try (cases h; done)
      rename_i hc
      split at h <;> try (cases h; done)
      rename_i ys hy
      obtain ⟨h1, h2⟩ := zd f (k + 1) (ys ++ xs) r h
      refine ⟨?_, h2⟩
      rw [h1, zik]
      simp only [jo, Zd hy hc, PV.cells]
def zpb : List TS → List TS
  | [] => []
  | x :: r => match Jo x with
    | 0 => zpb r
    | _ => x :: zpb r
def zp8 (xs : List TS) : TS := match zpb xs with
  | [x] => match zw x with
    | false => x
    | true => .dead
  | _ => .dead
def Yd (ag : Bool) (xs : List TS) : TS := match ag with
  | true => match xs with
    | [x] => match zw x with
      | true => x
      | false => .agg [x]
    | xs => .agg xs
  | false => match zpb xs with
    | [x] => match zw x with
      | false => x
      | true => match zou x, zfd x with
        | true, some l => zp8 l
        | _, _ => .dead
    | _ => .dead
theorem zap : ∀ (xs : List TS), jo (zpb xs) = jo xs
  | [] => rfl
  | x :: r => by
    simp only [zpb]
    split
    · rename_i h
      have : x.den.cells = [] := wcm (by rw [zbu, h])
      simp only [jo, this, wc2]
      exact zap r
    · simp only [jo, zap r]
theorem Zp {s : TS} (h : zw s = true) : s.den = .agg s.den.cells := by
  unfold zw at h
  split at h
  · simp only [TS.den, qc]; unfold enc mkV; rw [h]
  · simp only [TS.den]; rfl
  · simp only [TS.den]; rfl
  · cases h
theorem Jj {s : TS} (h : zw s = false) : s.den.cells = [s.den] := by
  cases s with
  | v d =>
    simp only [zw] at h
    simp only [TS.den, qc]
    unfold enc mkV
    rw [h]
    have hl := jn d.t d.x
    rw [Z4 h] at hl
    match hc : je d.t d.x, hl with
    | [c], _ => rfl
  | c v => cases v <;> first | (simp only [TS.den]; rfl) | (simp [zw] at h)
  | agg xs => simp [zw] at h
  | _ => simp only [TS.den]; rfl
theorem zg7 {xs : List TS} (h : zp8 xs ≠ .dead) : zw (zp8 xs) = false ∧ jo xs = [(zp8 xs).den] := by
  unfold zp8 at h ⊢
  split at h
  · rename_i x hx0
    split at h
    · rename_i hx
      rw [← zap xs, hx0]
      simp only [hx]
      exact ⟨trivial, by simp only [jo, wcl, Jj hx]⟩
    · exact absurd rfl h
  · exact absurd rfl h
theorem zvq {ag : Bool} {k : Nat} {xs : List TS} {rest : List PV} (hl : (jo xs).length = k) (hk : ag = false → k = 1) : ∃ p, zi ag k (jo xs ++ rest) = some p ∧ Ref p (Yd ag xs).den := by
  cases ag with
  | true =>
    refine ⟨.agg (jo xs), ?_, ?_⟩
    · unfold zi
      rw [if_pos rfl, if_pos (by simp; omega), ← hl]
      simp
    · unfold Yd
      simp only
      split
      · rename_i x
        split
        · rename_i hx
          rw [Zp hx]
          simp only [jo, wcl]; exact Ref.refl _
        · simp only [TS.den]; exact Ref.refl _
      · simp only [TS.den]; exact Ref.refl _
  | false =>
    have hk := hk rfl
    subst hk
    match hc : jo xs, hl with
    | [p], _ =>
      refine ⟨p, by simp [zi], ?_⟩
      have hd := zap xs
      rw [hc] at hd
      unfold Yd
      simp only
      split
      · rename_i x hx0
        rw [hx0] at hd
        split
        · rename_i hx
          simp only [jo, wcl, Jj hx] at hd
          cases hd; exact Ref.refl _
        · split
          · rename_i l hcs hy
            have h1 : jo l = [p] := by
              rw [← hd]
              have := Zd hy hcs
              simp only [jo, wcl, this, PV.cells]
            by_cases h2 : zp8 l = .dead
            · rw [h2]; simp only [TS.den]; exact Ref.unk _
            · have h3 := (zg7 h2).2
              rw [h1] at h3
              cases h3; exact Ref.refl _
          · simp only [TS.den]; exact Ref.unk _
      · simp only [TS.den]; exact Ref.unk _
end
end Go.Proofs.YtiafpechgjopfaaGreatDoor.T
