import Derived.Shelf.Small.Bits
import Derived.Shelf.Strconv.Itoa0
import Derived.Shelf.Sort.Plain
import Derived.Ground.Names2Prog
import Derived.Shelf.Slices.Clone
import Derived.Shelf.Slices.CompactI
import Derived.Shelf.Slices.SearchI
import Derived.Shelf.Slices.Cells
import Derived.Shelf.Slices.In.SortNone
import Derived.Shelf.Slices.Empties
import Derived.Ground.SlgnProg
import Derived.Shelf.SlicesE.Clone
import Derived.Test.YtiafpechgjopfaaGreatDoorProg
import Derived.WalkKit
import Derived.StillTail
import Derived.Deep.Quiet
import Derived.Laws.MakeOwn
import Derived.IntWalk
import Derived.Lib.Hide
import Derived.Test.YtiafpechgjopfaaGreatDoorRows
import Derived.Outline
import Derived.Deep.QuietTactic
import Derived.BigQuiet
import Derived.WalkSmall
import Derived.StillTailTactics
import Derived.Lib.SlicesCompact
import Derived.Sort.OwnSortedInts
import Derived.Lib.OwnBridge
import Derived.Scope
import Derived.MapKept
import Derived.Laws.StructEq
import Derived.Laws.BytesArg
import Derived.Maps.RangeRun
import Derived.WideKeyEntry
namespace Go.Proofs.YtiafpechgjopfaaGreatDoor
theorem wch : type_of% @List.getElem?_eq_getElem := @List.getElem?_eq_getElem
theorem wci : type_of% @List.length_replicate := @List.length_replicate
theorem wcj : type_of% @of_decide_eq_true := @of_decide_eq_true
theorem wck : type_of% @of_decide_eq_false := @of_decide_eq_false
theorem wcl : type_of% @List.getElem?_eq_some_iff := @List.getElem?_eq_some_iff
theorem wcm : type_of% @List.getElem_mem := @List.getElem_mem
theorem wcn : type_of% @Nat.eq_of_beq_eq_true := @Nat.eq_of_beq_eq_true
theorem wco : type_of% @Bool.and_eq_true := @Bool.and_eq_true
theorem wcp : type_of% @List.take_succ_eq_append_getElem := @List.take_succ_eq_append_getElem
theorem wcq : type_of% @List.mem_of_getElem? := @List.mem_of_getElem?
theorem wcr : type_of% @List.mem_singleton := @List.mem_singleton
theorem wcs : type_of% @Nat.le_refl := @Nat.le_refl
theorem wct : type_of% @Option.map_eq_some_iff := @Option.map_eq_some_iff
theorem wcu : type_of% @List.mem_append := @List.mem_append
theorem wcv : type_of% @List.getElem?_map := @List.getElem?_map
theorem wcw : type_of% @List.drop_eq_getElem_cons := @List.drop_eq_getElem_cons
theorem wcx : type_of% @List.getElem?_append_left := @List.getElem?_append_left
theorem wcy : type_of% @Int.toNat_natCast := @Int.toNat_natCast
theorem wcz : type_of% @List.getElem?_append_right := @List.getElem?_append_right
theorem wc0 : type_of% @List.length_map := @List.length_map
theorem wc1 : type_of% @List.append_nil := @List.append_nil
theorem wc2 : type_of% @List.append_assoc := @List.append_assoc
theorem wc3 : type_of% @decide_eq_false := @decide_eq_false
theorem wc4 : type_of% @List.length_append := @List.length_append
theorem wc5 : type_of% @Option.map_some := @Option.map_some
theorem wc6 : type_of% @List.mem_map := @List.mem_map
theorem wc7 : type_of% @List.map_cons := @List.map_cons
theorem wc8 : type_of% @List.take_length := @List.take_length
theorem wc9 : type_of% @decide_eq_true_eq := @decide_eq_true_eq
theorem wda : type_of% @List.mem_cons := @List.mem_cons
theorem wdb : type_of% @List.map_append := @List.map_append
theorem wdc : type_of% @List.length_singleton := @List.length_singleton
theorem wdd : type_of% @List.getElem?_of_mem := @List.getElem?_of_mem
theorem wde : type_of% @Array.getElem?_eq_some_iff := @Array.getElem?_eq_some_iff
theorem wdf : type_of% @Array.getElem?_eq_getElem := @Array.getElem?_eq_getElem
theorem wdg : type_of% @decide_eq_true := @decide_eq_true
theorem wdh : type_of% @Option.isSome_iff_exists := @Option.isSome_iff_exists
theorem wdi : type_of% @Option.bind_eq_some_iff := @Option.bind_eq_some_iff
theorem wdj : type_of% @List.flatMap_cons := @List.flatMap_cons
theorem wdk : type_of% @List.pairwise_cons := @List.pairwise_cons
theorem wdl : type_of% @List.getElem?_set := @List.getElem?_set
theorem wdm : type_of% @List.mem_flatMap := @List.mem_flatMap
theorem wdn : type_of% @Option.some.injEq := @Option.some.injEq
theorem wdo : type_of% @Array.getD_eq_getD_getElem? := @Array.getD_eq_getD_getElem?
theorem wdp : type_of% @List.eq_nil_of_length_eq_zero := @List.eq_nil_of_length_eq_zero
theorem wdq : type_of% @List.length_cons := @List.length_cons
theorem wdr : type_of% @Bool.false_eq_true := @Bool.false_eq_true
theorem wds : type_of% @List.drop_eq_nil_of_le := @List.drop_eq_nil_of_le
theorem wdt : type_of% @Nat.le_trans := @Nat.le_trans
theorem wdu : type_of% @List.all_eq_true := @List.all_eq_true
theorem wdv : type_of% @Option.bind_some := @Option.bind_some
theorem wdw : type_of% @List.cons_append := @List.cons_append
theorem wdx : type_of% @Option.getD_some := @Option.getD_some
theorem wdy : type_of% @Int.eq_ofNat_of_zero_le := @Int.eq_ofNat_of_zero_le
theorem wdz : type_of% @Nat.zero_le := @Nat.zero_le
theorem wd0 : type_of% @Nat.zero_add := @Nat.zero_add
theorem wd1 : type_of% @List.ext_getElem? := @List.ext_getElem?
theorem wd2 : type_of% @List.take_append_drop := @List.take_append_drop
theorem wd3 : type_of% @List.map_map := @List.map_map
theorem wd4 : type_of% @Option.some.inj := @Option.some.inj
theorem wd5 : type_of% @List.length_set := @List.length_set
theorem wd6 : type_of% @Bool.not_eq_true' := @Bool.not_eq_true'
theorem wd7 : type_of% @List.foldl_append := @List.foldl_append
theorem wd8 : type_of% @List.take_of_length_le := @List.take_of_length_le
theorem wd9 : type_of% @Nat.add_zero := @Nat.add_zero
theorem wea : type_of% @List.map_nil := @List.map_nil
theorem web : type_of% @List.nil_append := @List.nil_append
theorem wec : type_of% @List.map_congr_left := @List.map_congr_left
theorem wed : type_of% @List.drop_length := @List.drop_length
theorem wee : type_of% @List.getElem?_replicate := @List.getElem?_replicate
theorem wef : type_of% @Classical.not_not := @Classical.not_not
theorem weg : type_of% @Nat.mul_le_mul_right := @Nat.mul_le_mul_right
theorem weh : type_of% @List.mem_or_eq_of_mem_set := @List.mem_or_eq_of_mem_set
theorem wei : type_of% @List.getElem_of_mem := @List.getElem_of_mem
theorem wej : type_of% @Nat.le_of_ble_eq_true := @Nat.le_of_ble_eq_true
theorem wek : type_of% @List.getElem?_eq_none := @List.getElem?_eq_none
theorem wel : type_of% @List.pairwise_append := @List.pairwise_append
theorem wem : type_of% @List.mem_append_left := @List.mem_append_left
theorem wen : type_of% @List.getElem?_set_self := @List.getElem?_set_self
theorem weo : type_of% @List.length_nil := @List.length_nil
theorem wep : type_of% @Nat.lt_of_lt_of_le := @Nat.lt_of_lt_of_le
theorem weq : type_of% @List.mem_range := @List.mem_range
theorem wer : type_of% @List.flatMap_append := @List.flatMap_append
theorem wes : type_of% @List.getElem?_take := @List.getElem?_take
theorem wet : type_of% @Nat.beq_refl := @Nat.beq_refl
theorem weu : type_of% @Bool.true_and := @Bool.true_and
theorem wev : type_of% @List.getElem?_set_ne := @List.getElem?_set_ne
theorem wew : type_of% @List.length_eq_zero_iff := @List.length_eq_zero_iff
theorem wex : type_of% @Int.natCast_add := @Int.natCast_add
theorem wey : type_of% @List.mem_filter := @List.mem_filter
theorem wez : type_of% @Prod.mk.injEq := @Prod.mk.injEq
theorem we0 : type_of% @Nat.lt_succ_self := @Nat.lt_succ_self
theorem we1 : type_of% @List.Pairwise.sublist := @List.Pairwise.sublist
theorem we2 : type_of% @List.pairwise_iff_getElem := @List.pairwise_iff_getElem
theorem we3 : type_of% @Array.getElem?_setIfInBounds_ne := @Array.getElem?_setIfInBounds_ne
theorem we4 : type_of% @Nat.add_mul := @Nat.add_mul
theorem we5 : type_of% @List.getElem?_mapIdx := @List.getElem?_mapIdx
theorem we6 : type_of% @List.mem_cons_of_mem := @List.mem_cons_of_mem
theorem we7 : type_of% @List.ext_getElem := @List.ext_getElem
theorem we8 : type_of% @List.drop_of_length_le := @List.drop_of_length_le
theorem we9 : type_of% @List.filter_append := @List.filter_append
theorem wfa : type_of% @List.drop_left' := @List.drop_left'
theorem wfb : type_of% @List.nodup_cons := @List.nodup_cons
theorem wfc : type_of% @List.size_toArray := @List.size_toArray
theorem wfd : type_of% @List.mem_of_mem_take := @List.mem_of_mem_take
theorem wfe : type_of% @List.mem_of_mem_drop := @List.mem_of_mem_drop
theorem wff : type_of% @List.drop_zero := @List.drop_zero
theorem wfg : type_of% @List.length_take := @List.length_take
theorem wfh : type_of% @List.map_toArray := @List.map_toArray
theorem wfi : type_of% @List.length_pos_iff := @List.length_pos_iff
theorem wfj : type_of% @List.take_left' := @List.take_left'
theorem wfk : type_of% @List.cons.injEq := @List.cons.injEq
end Go.Proofs.YtiafpechgjopfaaGreatDoor
namespace Go.Proofs.YtiafpechgjopfaaGreatDoor
theorem X{P:Prop}(h:P:=by grind):P:=h
theorem Waa{P:Prop}(h:P:=by grind):P:=h
theorem Wab{P:Prop}(h:P:=by rfl):P:=h
theorem Wac{P:Prop}(h:P:=by rfl):P:=h
theorem U{P:Prop}(h:P:=by omega):P:=h
theorem Wad{P:Prop}(h:P:=by omega):P:=h
theorem K{P:Prop}(h:P:=by kernel_rfl):P:=h
theorem Wae{P:Prop}(h:P:=by kernel_rfl):P:=h
theorem V{P:Prop}(h:P:=by simp):P:=h
theorem Waf{P:Prop}(h:P:=by simp):P:=h
theorem W{P:Prop}(h:P:=by simp;omega):P:=h
theorem Wag{P:Prop}(h:P:=by simp;omega):P:=h
theorem Wah{P:Prop}(h:P:=by decide):P:=h
theorem Wai{P:Prop}(h:P:=by decide):P:=h
abbrev Wal:=Option
abbrev Wam:=List
abbrev Wan:=Go.Value
abbrev Wao:=Go.World
abbrev Wap:=Go.TypeId
abbrev Waq:=Go.Program
abbrev War:=Go.Operand
abbrev Was:=Go.IntKind
abbrev Wat:=Go.FuncId
theorem Wak{o:Go.Oper}{p:Go.Op}{x:Go.Operand}(d:o.op=p)(h:x∈p.operands:=by simp[Go.Op.operands]):x∈o.op.operands:=d▸h
end Go.Proofs.YtiafpechgjopfaaGreatDoor

namespace Go.Proofs
noncomputable section
open Tryz
set_option maxRecDepth 100000
set_option maxHeartbeats 8000000
set_option linter.unusedVariables false
set_option linter.unusedSimpArgs false
set_option linter.defProp false
open List (replicate range)
open Go.Shelf
def wa1:Go.Shelf.Ren:=⟨λ|189=>243|125=>282|257=>281|128=>313|129=>314|294=>305|295=>306|296=>307|297=>308|298=>309|299=>310|216=>303|300=>311|301=>312|328=>318|329=>319|330=>320|331=>321|332=>322|215=>317|343=>323|n=>n,λ|28=>30|3=>3|46=>223|0=>0|51=>81|53=>138|4=>4|183=>349|182=>348|131=>289|5=>5|9=>9|218=>357|222=>361|228=>363|229=>364|n=>n,λ|n=>n⟩
def wax:Go.Proofs.Lays.n189 Tryz.prog wa1:={
 mixed:=by kernel_rfl
 f125:=func282.trans (congrArg some (by kernel_rfl))
 f128:=func313.trans (congrArg some (by kernel_rfl))
 f129:=func314.trans (congrArg some (by kernel_rfl))
 f189:=func243.trans (congrArg some (by kernel_rfl))
 f215:=func317.trans (congrArg some (by kernel_rfl))
 f216:=func303.trans (congrArg some (by kernel_rfl))
 f257:=func281.trans (congrArg some (by kernel_rfl))
 f294:=func305.trans (congrArg some (by kernel_rfl))
 f295:=func306.trans (congrArg some (by kernel_rfl))
 f296:=func307.trans (congrArg some (by kernel_rfl))
 f297:=func308.trans (congrArg some (by kernel_rfl))
 f298:=func309.trans (congrArg some (by kernel_rfl))
 f299:=func310.trans (congrArg some (by kernel_rfl))
 f300:=func311.trans (congrArg some (by kernel_rfl))
 f301:=func312.trans (congrArg some (by kernel_rfl))
 f328:=func318.trans (congrArg some (by kernel_rfl))
 f329:=func319.trans (congrArg some (by kernel_rfl))
 f330:=func320.trans (congrArg some (by kernel_rfl))
 f331:=func321.trans (congrArg some (by kernel_rfl))
 f332:=func322.trans (congrArg some (by kernel_rfl))
 f343:=func323.trans (congrArg some (by kernel_rfl))
 t0:=underlying0
 a0:=isAgg0
 z0:=sizeOf0
 v0:=zeroValue0
 t3:=underlying3
 a3:=isAgg3
 z3:=sizeOf3
 v3:=zeroValue3
 t4:=underlying4
 a4:=isAgg4
 z4:=sizeOf4
 v4:=zeroValue4
 t5:=underlying5
 a5:=isAgg5
 z5:=sizeOf5
 v5:=zeroValue5
 t9:=underlying9
 a9:=isAgg9
 z9:=sizeOf9
 v9:=zeroValue9
 t28:=underlying30
 a28:=isAgg30
 z28:=sizeOf30
 v28:=zeroValue30
 t46:=underlying223
 a46:=isAgg223
 z46:=sizeOf223
 v46:=zeroValue223
 t51:=underlying81
 a51:=isAgg81
 z51:=sizeOf81
 v51:=zeroValue81
 t53:=underlying138
 a53:=isAgg138
 z53:=sizeOf138
 v53:=zeroValue138
 t131:=underlying289
 a131:=isAgg289
 z131:=sizeOf289
 v131:=zeroValue289
 t182:=underlying348
 a182:=isAgg348
 z182:=sizeOf348
 v182:=zeroValue348
 t183:=underlying349
 a183:=isAgg349
 z183:=sizeOf349
 v183:=zeroValue349
 t218:=underlying357
 a218:=isAgg357
 z218:=sizeOf357
 v218:=zeroValue357
 t222:=underlying361
 a222:=isAgg361
 z222:=sizeOf361
 v222:=zeroValue361
 t228:=underlying363
 a228:=isAgg363
 z228:=sizeOf363
 v228:=zeroValue363
 t229:=underlying364
 a229:=isAgg364
 z229:=sizeOf364
 v229:=zeroValue364 }
open Go.Sort Go.RowKit in
theorem Tryz.slices_Sort_int(a off cap:Nat)(c:List Int)(w:World)(f:Holds (Value.int .i64) w a off c.toArray)(b:a<w.heap.size)(d:c.length<4611686018427387904):
  Calls Tryz.prog 243 #[.slice (some ⟨a,off,none⟩) c.length cap] w λe h=>
   e=.returned (.tuple #[])/\∃n g,h=grow (putRow (Value.int .i64) (Sort.ahead w n) a off (c.mergeSort λx y=>decide (x<=y)).toArray) g:=Any.slices_Sort_int wax a off cap c w f b d
def wav:Go.Shelf.Ren:=⟨λ|15=>33|n=>n,λ|22=>30|3=>3|4=>4|n=>n,λ|n=>n⟩
def wan:Go.Proofs.Lays2.n15 Tryz.prog wav:={
 mixed:=by kernel_rfl
 f15:=func33.trans (congrArg some (by kernel_rfl))
 t3:=underlying3
 a3:=isAgg3
 z3:=sizeOf3
 v3:=zeroValue3
 t4:=underlying4
 a4:=isAgg4
 z4:=sizeOf4
 v4:=zeroValue4
 t22:=underlying30
 a22:=isAgg30
 z22:=sizeOf30
 v22:=zeroValue30
 i3:=by kernel_rfl }
open Go.RowKit Go.Lib in
theorem Tryz.slices_Clone_int(b off n c:Nat)(d:List Int)(w:World)(hz:n<=d.length)(a:n*8<=140737488355328)(h:∀j,j<d.length->w.cell? ⟨b,off+j,none⟩=some (.int .i64 (d.getD j 0))):
  Calls Tryz.prog 33 #[.slice (some ⟨b,off,none⟩) n c] w λe g=>∃f,e=.returned f/\g.ownsRow w.heap.size 3 1 f n ((d.take n).map (Value.int .i64))/\f ≠ .slice none 0 0/\Below w.heap.size w g:=Any.slices_Clone_int wan b off n c d w hz a h
open Go.RowKit Go.Lib in
theorem Tryz.slices_Clone_int_nil(n c:Nat)(w:World):
  Calls Tryz.prog 33 #[.slice none n c] w λe a=>e=.returned (.slice none 0 0)/\a=w:=Any.slices_Clone_int_nil wan n c w
open Go.RowKit Go.Lib in
theorem Tryz.slices_Clone_int_zero(a:Addr)(c:Nat)(w:World):
  Calls Tryz.prog 33 #[.slice (some a) 0 c] w λe d=>∃b,e=.returned b/\d.ownsRow w.heap.size 3 1 b 0 []/\b ≠ .slice none 0 0/\Below w.heap.size w d:=Any.slices_Clone_int_zero wan a c w
def wau:Go.Shelf.Ren:=⟨λ|20=>244|n=>n,λ|22=>30|3=>3|4=>4|0=>0|n=>n,λ|n=>n⟩
def wat:Go.Proofs.Lays2.n20 Tryz.prog wau:={
 mixed:=by kernel_rfl
 f20:=func244.trans (congrArg some (by kernel_rfl))
 t0:=underlying0
 a0:=isAgg0
 z0:=sizeOf0
 v0:=zeroValue0
 t3:=underlying3
 a3:=isAgg3
 z3:=sizeOf3
 v3:=zeroValue3
 t4:=underlying4
 a4:=isAgg4
 z4:=sizeOf4
 v4:=zeroValue4
 t22:=underlying30
 a22:=isAgg30
 z22:=sizeOf30
 v22:=zeroValue30
 i3:=by kernel_rfl }
open Go.RowKit Go.Lib Go.Sort in
theorem Tryz.slices_Compact_int(a off cap:Nat)(b:List Int)(w:World)(f:Holds (Value.int .i64) w a off b.toArray)(d:b.length<=9223372036854775807)(c:b.length<=cap):
  Calls Tryz.prog 244 #[.slice (some ⟨a,off,none⟩) b.length cap] w λe g=>e=.returned (.slice (some ⟨a,off,none⟩) (Lib.compact b).length cap)/\∃q,g=putRow (Value.int .i64) (Sort.ahead w q) a off (Lib.compact b++replicate (b.length-(Lib.compact b).length) 0).toArray:=Any.slices_Compact_int wat a off cap b w f d c
open Go.RowKit Go.Lib Go.Sort in
theorem Tryz.slices_Compact_int_empty(a:Option Addr)(cap:Nat)(w:World):
  Calls Tryz.prog 244 #[.slice a 0 cap] w λe b=>e=.returned (.slice a 0 cap)/\b=w:=Any.slices_Compact_int_empty wat a cap w
open Go.RowKit Go.Sort in
theorem Tryz.slices_Sort_int_none(p:Option Addr)(cap:Nat)(w:World):
  Calls Tryz.prog 243 #[.slice p 0 cap] w λe a=>e=.returned (.tuple #[])/\a=w:=Any.slices_Sort_int_none wax p cap w
end
end Go.Proofs
namespace Go.Proofs.YtiafpechgjopfaaGreatDoor.L
noncomputable section
set_option maxRecDepth 100000
set_option maxHeartbeats 8000000
set_option linter.unusedVariables false
set_option linter.unusedSimpArgs false
set_option linter.defProp false
open List (replicate range)
open Go
def glT:List (Nat×List Value):=[(0,[.int .i64 (-1),.int .i64 0])]
def GW(w:World):Prop:=∀x∈glT,x.1<w.heap.size/\∀k c,x.2[k]?=some c->w.cell? ⟨x.1,k,none⟩=some c
def gw_some:∃w,GW w:=⟨{ (default:Wao)with heap:=Array.replicate (0+1) (.cells #[.int .i64 (-1),.int .i64 0] 0 (0,0)) },λx h=>by
 simp only[glT,wcr]at h;subst h;refine⟨Wah,λk c a=>?_⟩;match k,a with
 |0,a=>cases a;rfl
 |1,a=>cases a;rfl
 |k+2,a=>simp at a⟩
open Go Go.RowKit
inductive Nm where
 |o (i:Nat)
 |c (i j:Nat)
 |r (x:Nm)
 deriving DecidableEq
def Nm.rt:Nm->Option Nat
 |.o i=>some i
 |.c i _=>some i
 |.r _=>none
inductive PV where
 |u (v:Value)
 |unk
 |agg (cs:List PV)
 |tup (cs:List PV)
 |sl (k:Nat) (xs:List PV)
 |fr (t:TypeId) (k:Nat) (xs:List PV)
 |rp (cs:List PV)
 |ps (id:Nm) (ver:Nat)
 |qs (id:Nm) (off k ver:Nat)
 |pp (id:Nm) (off ver:Nat)
 |fn (f:Fn) (a b:List PV)
 deriving Inhabited
def PV.cells:PV->List PV
 |.agg cs=>cs
 |p=>[p]
inductive PBody where
 |row (t:TypeId) (k n:Nat) (cs:List PV)
 |box (t:TypeId) (cs:List PV)
 |raw (p:Bool) (cs:List PV) (φ:Nat->Obj->List Value->Prop)
 |que (t:TypeId) (k n:Nat) (cs:List PV)
structure zm8 where
 ver:Nat
 body:Option PBody
abbrev PHeap:=Nm->zm8
abbrev Wau:=PHeap
abbrev PFrame:=Nat->PV
abbrev Wav:=PFrame
def PHeap.empty:PHeap:=λ_=>⟨0,none⟩
def PHeap.set(H:PHeap)(id:Nm)(b:zm8):PHeap:=λi=>if i=id then b else H i
def PFrame.put(F:PFrame)(d:Option Nat)(p:PV):PFrame:=λt=>if d=some t then p else F t
def zum(off k:Nat)(V v:Value):Prop:=
 ∃a n c d,V=.slice a n c/\v=.slice d (n-off) (c-off)/\off<=n/\n<=c/\((a=none/\d=none)\/∃b o,a=some ⟨b,0,none⟩/\d=some ⟨b,o,none⟩/\(o=off*k\/c=off))
def jv9(p:Bool)(g:Nat):Value:=match p with
 |true => .pointer (some ⟨g,0,none⟩)
 |false => .map (some g)
def jj2(es:List (Value×Value)):PBody :=.raw false [] λ_ o _=>∃arr a,o=.map arr a/\arr.toList.map (λe=>(e.key,e.val))=es
def qc:Value->Option Nat
 |.slice (some a) _ _=>some a.block
 |.pointer (some a)=>some a.block
 |.map (some b)=>some b
 |_=>none
def zbd:Value->Nat
 |.slice (some a) _ _=>a.off
 |_=>0
def zqw(p:Bool)(g:Nat):qc (jv9 p g)=some g:=by cases p<;>rfl
structure ZM where
 z:Nat->Prop
 m:Nat
instance:CoeFun ZM λ_=>Nat->Prop:=⟨ZM.z⟩
def PZ(Z:ZM)(H:PHeap)(V:Nm->Value)(b:Nat):Prop:=Z b\/∃id,(H id).body.isSome=true/\qc (V id)=some b
inductive Rp(Z:ZM)(H:PHeap)(V:Nm->Value)(w:World):PV->Value->Prop
 |u (v:Value):Rp Z H V w (.u v) v
 |unk (v:Value):Rp Z H V w .unk v
 |agg (cs:List PV) (vs:Array Value) (hl:cs.length=vs.size) (h:∀(i:Nat)(p:PV)(v:Value),cs[i]?=some p->vs[i]?=some v->Rp Z H V w p v):Rp Z H V w (.agg cs) (.agg vs)
 |tup (cs:List PV) (vs:Array Value) (hl:cs.length=vs.size) (h:∀(i:Nat)(p:PV)(v:Value),cs[i]?=some p->vs[i]?=some v->Rp Z H V w p v):Rp Z H V w (.tup cs) (.tuple vs)
 |nil (k:Nat) (a:Option Addr) (c:Nat):Rp Z H V w (.sl k []) (.slice a 0 c)
 |sl (k:Nat) (xs:List PV) (b o c:Nat) (g:Nat->Value) (hu:∀y∈xs,y.cells.length=k) (hlen:xs.length<=c)
   (hz:¬PZ Z H V b) (hb:b<w.heap.size)
   (h1:∀(i:Nat)(p:PV),(xs.flatMap PV.cells)[i]?=some p->w.cell? ⟨b,o+i,none⟩=some (g i))
   (h2:∀(i:Nat)(p:PV),(xs.flatMap PV.cells)[i]?=some p->Rp Z H V w p (g i)):Rp Z H V w (.sl k xs) (.slice (some ⟨b,o,none⟩) xs.length c)
 |fr (t:TypeId) (k:Nat) (xs:List PV) (v:Value) (vals:List Value) (hu:∀y∈xs,y.cells.length=k) (ho:w.ownsRow Z.m t k v xs.length vals)
   (hz:∀b,qc v=some b->¬PZ Z H V b) (h1:∀u∈vals,u.oneCell'=true)
   (h2:∀(i:Nat)(p:PV)(u:Value),(xs.flatMap PV.cells)[i]?=some p->vals[i]?=some u->Rp Z H V w p u):Rp Z H V w (.fr t k xs) v
 |rp (cs:List PV) (b o:Nat) (g:Nat->Value) (hz:¬PZ Z H V b) (hb:b<w.heap.size)
   (h1:∀(i:Nat)(p:PV),cs[i]?=some p->w.cell? ⟨b,o+i,none⟩=some (g i))
   (h2:∀(i:Nat)(p:PV),cs[i]?=some p->Rp Z H V w p (g i)):Rp Z H V w (.rp cs) (.pointer (some ⟨b,o,none⟩))
 |ps (id:Nm) (ver:Nat) (v:Value) (hv:ver<=(H id).ver) (h:(H id).body.isSome=true->(H id).ver=ver->v=V id):Rp Z H V w (.ps id ver) v
 |qs (id:Nm) (off k ver:Nat) (v:Value) (hv:ver<=(H id).ver) (h:(H id).body.isSome=true->(H id).ver=ver->zum off k (V id) v):Rp Z H V w (.qs id off k ver) v
 |pp (id:Nm) (off ver:Nat) (v:Value) (hv:ver<=(H id).ver) (h:(H id).body.isSome=true->(H id).ver=ver->∃g,qc (V id)=some g/\v=.pointer (some ⟨g,zbd (V id)+off,none⟩)):Rp Z H V w (.pp id off ver) v
 |fn (f:Fn) (a b:List PV) (va vb:Array Value) (hla:a.length=va.size) (hlb:b.length=vb.size)
   (ha:∀(i:Nat)(p:PV)(v:Value),a[i]?=some p->va[i]?=some v->Rp Z H V w p v) (hb:∀(i:Nat)(p:PV)(v:Value),b[i]?=some p->vb[i]?=some v->Rp Z H V w p v):Rp Z H V w (.fn f a b) (.func f va vb)
def Q5{w w':Wao}{m i:Nat}{t:Wap}{k n:Nat}{v:Wan}{a:Wam Wan}(f:w.ownsRow m t k v n a)(hm:i<=m)(j:∀b,qc v=some b->b<w.heap.size->w'.heap[b]?=w.heap[b]?):w'.ownsRow i t k v n a:=⟨f.1,by
 rcases f.2 with h|⟨g,c,d,e,o,l,r⟩
 {grind};.exact .inr ⟨g,c,d,e,U,by rw[j g (by rw[e];rfl) (wde.1 l).1];omega,r⟩⟩
def Zu{w:Wao}{m:Nat}{t:Wap}{k n:Nat}{v:Wan}{a:Wam Wan}(h:w.ownsRow m t k v n a){b:Nat}(c:qc v=some b):m<=b/\b<w.heap.size:=by
 rcases h.2 with⟨e,_⟩|⟨g,d,f,e,i,j,r⟩
 {rw[e]at c;cases c};.rw[e]at c;cases c;grind
def Rp.mono{Z B:ZM}{H s:Wau}{V V':Nm->Wan}{w w':Wao}{p:PV}{v:Wan}(h:Rp Z H V w p v)
  (A:∀b,¬PZ Z H V b->b<w.heap.size->¬PZ B s V' b/\b<w'.heap.size/\w'.heap[b]?=w.heap[b]?)
  (hm:B.m<=Z.m)
  (N:∀id,(H id).ver<=(s id).ver)
  (hl:∀id d,d<=(H id).ver->(s id).body.isSome=true->(s id).ver=d->(H id).body.isSome=true/\(H id).ver=d/\V' id=V id):Rp B s V' w' p v:=by
 induction h with
 |u v=>exact .u v
 |unk v=>exact .unk v
 |agg cs Q n h l=>exact .agg cs Q n l
 |tup cs Q n h l=>exact .tup cs Q n l
 |nil k a c=>exact .nil k a c
 |sl k R b o c g M y hz j r x l=>
  obtain⟨C,D,F⟩:=A b hz j;exact .sl k R b o c g M y C D (λi p T=>by rw[World.cell?_of_block F];grind) l
 |fr t k R v z M S hz r x l=>
  exact .fr t k R v z M (Q5 S hm λb j L=>(A b (hz b j) L).2.2) (λb j=>(A b (hz b j) (Zu S j).2).1) r l
 |rp cs b o g hz j r x l=>
  obtain⟨C,D,F⟩:=A b hz j;exact .rp cs b o g C D (λi p T=>by rw[World.cell?_of_block F];grind) l
 |ps id d v e h=>
  refine .ps id d v (wdt e (N id)) λr x=>?_
  grind
 |qs id q k d v e h=>
  refine .qs id q k d v (wdt e (N id)) λr x=>?_
  grind
 |pp id q d v e h=>
  refine .pp id q d v (wdt e (N id)) λr x=>?_
  grind
 |fn f a b Y vb G I J j O P=>exact .fn f a b Y vb G I O P
def Rp.grow{Z:ZM}{H:Wau}{V:Nm->Wan}{w w':Wao}{p:PV}{v:Wan}(h:Rp Z H V w p v)(c:Below w.heap.size w w'):Rp Z H V w' p v:=
 h.mono (λb hz a=>⟨hz,wep a c.size,c.block b a⟩) (wcs _) (λ_=>wcs _) (λ_ _ _ d e=>⟨d,e,rfl⟩)
def RpL(Z:ZM)(H:PHeap)(V:Nm->Value)(w:World)(cs:List PV)(vs:List Value):Prop:=
 cs.length=vs.length/\∀(i:Nat)(p:PV)(v:Value),cs[i]?=some p->vs[i]?=some v->Rp Z H V w p v
def RpL.mono{Z b:ZM}{H a:Wau}{V V':Nm->Wan}{w w':Wao}{cs:Wam PV}{vs:Wam Wan}(h:RpL Z H V w cs vs)
  (hm:∀p v,Rp Z H V w p v->Rp b a V' w' p v):RpL b a V' w' cs vs:=⟨h.1,λi p v c d=>hm p v (h.2 i p v c d)⟩
def GW.below{w w':Wao}(h:GW w)(b:Below w.heap.size w w'):GW w':=λx g=>by obtain⟨a,d⟩:=h x g;refine⟨wep a b.size,λk c f=>?_⟩;have e:=d k c f;unfold World.cell? at e⊢;rw[b.block x.1 a];omega
structure Env where
 w:World
 Z:ZM
 hm:Z.m<=w.heap.size
 gw:GW w
 /-- what waits: the slots of those that called, who share the own heap -/
 G:Nat->PV:=λ_=> .unk
 gv:Nat->Value:=λ_=>undef
 /-- what the call has deferred -/
 ds:List Deferred:=[]
def jqy:Env:={ w:=gw_some.choose,Z:=⟨λ_=>False,0⟩,hm:=wdz _,gw:=gw_some.choose_spec }
def PBody.cs:PBody->List PV
 |.row _ _ _ cs=>cs
 |.box _ cs=>cs
 |.raw _ cs _=>cs
 |.que _ _ _ cs=>cs
def PBody.Is(w:World)(m:Nat)(v:Value)(vs:List Value):PBody->Prop
 |.row t k n _=>w.ownsRow m t k v n vs/\∀u∈vs,u.oneCell'=true
 |.box t _=>∃g,v=.pointer (some ⟨g,0,none⟩)/\m<=g/\w.heap[g]?=some (.cells vs.toArray t (0,0))/\∀u∈vs,u.oneCell'=true
 |.raw p _ φ=>∃g o,v=jv9 p g/\m<=g/\w.heap[g]?=some o/\φ g o vs
 |.que t k n _=>∃c a b,w.ownsRow m t k c (a+n) (b++vs)/\b.length=a*k/\zum a k c v/\∀u∈b++vs,u.oneCell'=true
def Zh{off k:Nat}{V v:Wan}(h:zum off k V v):qc v=qc V:=by obtain⟨a,n,c,d,rfl,rfl,_,_,⟨rfl,rfl⟩|⟨b,o,rfl,rfl,_⟩⟩:=h<;>rfl
def PBody.Is.lt{w:Wao}{m:Nat}{v:Wan}{vs:Wam Wan}{bd:PBody}(h:bd.Is w m v vs){b:Nat}(a:qc v=some b):m<=b/\b<w.heap.size:=by cases bd with|row t k n cs=>{exact Zu h.1 a}|box t cs=>{obtain⟨g,rfl,d,e,_⟩:=h;cases a;grind}|raw p cs φ=>{obtain⟨g,o,rfl,d,e,_⟩:=h;rw[zqw]at a;grind}|que t k n cs=>obtain⟨l,i,j,f,_,c,_⟩:=h;exact Zu f ((Zh c).symm.trans a)
def PBody.Is.keep{w w':Wao}{m:Nat}{v:Wan}{vs:Wam Wan}{bd:PBody}(h:bd.Is w m v vs)(c:∀b,qc v=some b->w'.heap[b]?=w.heap[b]?):bd.Is w' m v vs:=by cases bd with|row t k n cs=>{exact⟨Q5 h.1 (wcs _) λb e _=>c b e,h.2⟩}|box t cs=>{obtain⟨g,rfl,d,q,a⟩:=h;exact⟨g,rfl,d,by rw[c g rfl];omega,a⟩}|raw p cs φ=>{obtain⟨g,o,rfl,d,q,a⟩:=h;exact⟨g,o,rfl,d,by rw[c g (zqw p g)];omega,a⟩}|que t k n cs=>obtain⟨s,f,i,r,a,j,l⟩:=h;exact⟨s,f,i,Q5 r (wcs _) λb e _=>c b ((Zh j).trans e),a,j,l⟩
structure HRel(P:Program)(W:Env)(H:PHeap)(V:Nm->Value)(w:World):Prop where
 below:Below W.w.heap.size W.w w
 body:∀id bd,(H id).body=some bd->∃vs,bd.Is w W.w.heap.size (V id) vs/\RpL W.Z H V w bd.cs vs
 ghost:∀i,Rp W.Z H V w (W.G i) (W.gv i)
 apart:∀id id' g,(H id).body.isSome=true->(H id').body.isSome=true->qc (V id)=some g->qc (V id')=some g->id=id'
 zlt:∀b,W.Z b->b<w.heap.size
 nz:∀id b,(H id).body.isSome=true->qc (V id)=some b->¬W.Z b
section
variable{P:Program}{W:Env}{H:PHeap}{V:Nm → Value}{w:World}
def HRel.row(h:HRel P W H V w)(id:Nm)(t:Wap)(k n:Nat)(cs:Wam PV)(d:(H id).body=some (.row t k n cs)):∃a,w.ownsRow W.w.heap.size t k (V id) n a/\RpL W.Z H V w cs a/\∀v∈a,v.oneCell'=true:=by obtain⟨e,b,c⟩:=h.body id _ d;exact⟨e,b.1,c,b.2⟩
def HRel.box(h:HRel P W H V w)(id:Nm)(t:Wap)(cs:Wam PV)(f:(H id).body=some (.box t cs)):∃g arr,V id=.pointer (some ⟨g,0,none⟩)/\W.w.heap.size<=g/\w.heap[g]?=some (.cells arr t (0,0))/\RpL W.Z H V w cs arr.toList/\∀v∈arr.toList,v.oneCell'=true:=by obtain⟨i,⟨g,a,b,c,d⟩,e⟩:=h.body id _ f;exact⟨g,i.toArray,a,b,c,e,d⟩
def HRel.map(h:HRel P W H V w)(id:Nm)(p:Bool)(cs:Wam PV)(φ:Nat->Obj->Wam Wan->Prop)(i:(H id).body=some (.raw p cs φ)):∃g o a,V id=jv9 p g/\W.w.heap.size<=g/\w.heap[g]?=some o/\φ g o a/\RpL W.Z H V w cs a:=by obtain⟨a,⟨g,o,b,c,d,e⟩,f⟩:=h.body id _ i;exact⟨g,o,a,b,c,d,e,f⟩
def HRel.gw(h:HRel P W H V w):GW w:=W.gw.below h.below
def HRel.own_lt(h:HRel P W H V w){id:Nm}{b:Nat}(f:(H id).body.isSome=true)(e:qc (V id)=some b):W.w.heap.size<=b/\b<w.heap.size:=by obtain⟨c,a⟩:=wdh.1 f;obtain⟨g,d,_⟩:=h.body id c a;exact d.lt e
def HRel.grow{w':Wao}(h:HRel P W H V w)(a:Below w.heap.size w w'):HRel P W H V w':=by refine⟨h.below.trans (a.mono h.below.size),λid e c=>?_,λi=>(h.ghost i).grow a,h.apart,λb hz=>wep (h.zlt b hz) a.size,h.nz⟩;obtain⟨k,d,f⟩:=h.body id e c;exact⟨k,d.keep λb j=>a.block b (d.lt j).2,f.mono λp v g=>g.grow a⟩
end
structure Rel(P:Program)(W:Env)(n:Nat)(F:PFrame)(H:PHeap)(V:Nm->Value)(a:Act)(w:World):Prop where
 heap:HRel P W H V w
 size:a.tmps.size=n
 defers:a.defers=W.ds
 slot:∀t,Rp W.Z H V w (F t) (a.tmps.getD t undef)
def ofV:Value->PV
 |.agg a => .agg (a.toList.map .u)
 |v => .u v
def evP(F:PFrame):Operand->PV
 |.tmp t=>F t
 |.const v=>ofV v
 |.global _ => .unk
 |.func f => .fn (.func f) [] []
def Rp.ofV (Z : ZM) (H : Wau) (V : Nm → Wan) (w : Wao) (v : Wan) : Rp Z H V w (ofV v) v := by
  cases v <;> first
    | exact .u _
    | (refine .agg _ _ (by simp) fun i p v a c => ?_
       simp only [wcv, wct] at a
       obtain ⟨q, b, rfl⟩ := a
       rw [Array.getElem?_toList, c] at b
       cases b
       exact .u _)
def Rp.eval{P:Waq}{Z:ZM}{H:Wau}{V:Nm->Wan}{w:Wao}{F:Wav}{a:Act}(x:War)(h:∀t,x=.tmp t->Rp Z H V w (F t) (a.tmps.getD t undef)):Rp Z H V w (evP F x) (a.eval x):=by cases x with|tmp t=>{exact h t rfl}|const v=>{exact Rp.ofV Z H V w v}|global g=>{exact .unk _}|func f=>exact .fn _ [] [] #[] #[] rfl rfl (λi p v h=>Waf) (λi p v h=>Waf)
def Rel.put{P:Waq}{W:Env}{n:Nat}{F:Wav}{H:Wau}{V:Nm->Wan}{a:Act}{w w':Wao}(h:Rel P W n F H V a w)(b:Below w.heap.size w w')(d:Wal Nat)(f:∀t,d=some t->t<n){p:PV}{v:Wan}(g:Rp W.Z H V w' p v):Rel P W n (F.put d p) H V (a.put d v) w':=by refine⟨h.heap.grow b,?_,?_,λt=>?_⟩;{cases d<;>simp[Act.put,h.size]};{cases d<;>simp[Act.put,h.defers]};.cases d with|none=>{simpa [Act.put,PFrame.put]using(h.slot t).grow b}|some d=>by_cases e:d=t;{subst e;have:=f d rfl;simpa [Act.put,PFrame.put,h.size,this]using g};.have c:¬(some d=some t):=X;simp only[PFrame.put,if_neg c];have:=(h.slot t).grow b;simpa [Act.put,we3 e]using this
section
variable{P:Program}{W:Env}{n:Nat}{ops:Array Oper}{md:Region.Mode}{H:PHeap}
def PQ(P:Program)(W:Env)(o:Oper)(F:PFrame)(H:PHeap)(p:PV):Prop:=
 ∀(V:Nm->Value)(a:Act)(w:World),HRel P W H V w->(∀t,Operand.tmp t∈o.op.operands->Rp W.Z H V w (F t) (a.tmps.getD t undef)) ->
  o.wp P a w (λc b=>∃v,c=a.put o.dst v/\Rp W.Z H V b p v/\Below w.heap.size w b) (λ_ _ _=>False)
def Y8(ops:Array Oper)(o:Oper)(F:PFrame):Option Bool:=
 match o.guard with
 |none=>some true
 |some (j,a)=>
  match (ops[j]?).bind (·.dst)with
  |none=>none
  |some d=>
   match F d with
   |.u (.bool b)=>some (b == a)
   |.u (.tuple _)=>some false
   |_=>none
def zd2{o:Oper}{F:Wav}{V:Nm->Wan}{a:Act}{w:Wao}{b:Bool}(h:Y8 ops o F=some b)(n:∀t,Rp W.Z H V w (F t) (a.tmps.getD t undef)):Region.wanted o (yielded ops a.tmps)=b:=by unfold Y8 at h;unfold Region.wanted;cases i:o.guard with|none=>{rw[i]at h;simpa using h}|some gw=>obtain⟨j,k⟩:=gw;rw[i]at h;simp only at h⊢;cases g:(ops[j]?).bind (·.dst)with|none=>{rw[g]at h;cases h}|some d=>rw[g]at h;simp only at h;have c:=n d;have p:yielded ops a.tmps j=match a.tmps[d]? with|some (.bool b)=>some b|_=>none:=by{unfold yielded;grind};split at h;{rename_i f e;rw[e]at c;have:a.tmps.getD d undef=.bool f:=by{generalize a.tmps.getD d undef=q at c;cases c;rfl};have l:a.tmps[d]?=some (.bool f):=by{rw[wdo]at this;cases m:a.tmps[d]? with|none=>{rw[m]at this;simp[undef]at this}|some q=>grind};simp_all};{rename_i r e;rw[e]at c;have:a.tmps.getD d undef=.tuple r:=by{generalize a.tmps.getD d undef=q at c;cases c;rfl};have l:yielded ops a.tmps j=none:=by{rw[p];rw[wdo]at this;grind};grind};grind
def Zc(n:Nat)(o:Oper):Prop:=∀t,o.dst=some t->t<n
def Rel.drawn{F:Wav}{V:Nm->Wan}{a:Act}{w:Wao}(h:Rel P W n F H V a w):Rel P W n F H V a { w with drawn:=w.drawn+1 }:=by
 have b:Below w.heap.size w { w with drawn:=w.drawn+1 }:=⟨rfl,rfl,rfl,wcs _,λ_ _=>rfl⟩
 exact⟨h.heap.grow b,h.size,h.defers,λt=>(h.slot t).grow b⟩
end
def _root_.Go.Sem.val{α:Type}(P:Program):Sem α->Option α
 |.pure a=>some a
 |.program k=>(k P).val P
 |.mark _ k=>k.val P
 |_=>none
def zf8{α:Type}{P:Waq}{s:Sem α}{a:α}(h:s.val P=some a)(w:Wao):s.run P w=.ok a w:=by induction s with|pure b=>{simp[Sem.val,wdn]at h;simp_all}|program k c=>{simp[Sem.val]at h;simp[Sem.run];grind}|mark m k c=>{simp[Sem.val]at h;simp[Sem.run];grind}|_=>simp[Sem.val]at h
def ve{α β:Type}{P:Waq}(s:Sem α)(f:α->Sem β):(s >>= f).val P=(s.val P).bind λa=>(f a).val P:=by show(s.bind f).val P=_;induction s with|pure b=>{rfl}|program k c=>{simp[Sem.bind,Sem.val];grind}|mark m k c=>{assumption}|_=>simp[Sem.bind,Sem.val]
def zxj{α β:Type}{P:Waq}(s:Sem α)(f:α->β):(f <$> s).val P=(s.val P).map f:=by rw[<- bind_pure_comp,ve];cases s.val P<;>rfl
def vm{α:Type}{P:Waq}(a:α):(Pure.pure a:Sem α).val P=some a:=rfl
def esz(P:Program)(t:TypeId):Option Nat:=match P.underlying t with|some (.slice e)=>(P.info? e).map (·.size)|_=>none
def arr(P:Program)(t:TypeId):Option (Nat×Nat):=match P.underlying t with|some (.array n e)=>(P.info? e).map λi=>(n,i.size)|_=>none
def zty:TypeDesc->Bool|.struct _|.array _ _=>true|_=>false
def asz(P:Program)(t:TypeId):Option (Bool×Nat):=match P.underlying t with|some d=>(P.info? t).map λi=>(zty d,i.size)|none=>none
def fof(P:Program)(s:TypeId)(f:Nat):Option (Nat×TypeId):=match P.underlying s with|some (.struct a)=>(a[f]?).map λx=>(x.offset,x.type)|_=>none
def jnn(P:Program)(t:TypeId):Option TypeId:=match P.underlying t with|some (.array _ e)=>some e|_=>none
def z5d{P:Waq}{t:Wap}{d:TypeDesc}(h:P.underlying t=some d)(w:Wao):(isAgg t).run P w=.ok (zty d) w:=by unfold isAgg;rw[Sem.run_bind,run_underlying h w];cases d<;>simp[zty]
def zgo{P:Waq}{t:Wap}{g:Bool}{k:Nat}(h:asz P t=some (g,k))(w:Wao):(isAgg t).run P w=.ok g w/\(sizeOf t).run P w=.ok k w:=by unfold asz at h;cases b:P.underlying t with|none=>{grind}|some d=>rw[b]at h;simp only at h;cases a:P.info? t with|none=>{grind}|some i=>rw[a]at h;simp[wc5,wdn,wez]at h;obtain⟨c,e⟩:=h;exact⟨by rw[z5d b w,c],by simp[sizeOf,typeInfo,a,e]⟩
def zgx{P:Waq}{t:Wap}{k:Nat}(h:esz P t=some k):∃e i,P.underlying t=some (.slice e)/\P.info? e=some i/\i.size=k:=by unfold esz at h;split at h;{simp_all};grind
def zze{P:Waq}{t:Wap}{n k:Nat}(h:arr P t=some (n,k)):∃e i,P.underlying t=some (.array n e)/\P.info? e=some i/\i.size=k:=by unfold arr at h;split at h;{rename_i m e b;cases a:P.info? e with|none=>{grind}|some i=>grind};grind
section
variable{P:Program}{W:Env}{H:PHeap}{F:PFrame}
def waf{o:Oper}{p:PV}(h:∀V(a:Act)w,HRel P W H V w->(∀x∈o.op.operands,Rp W.Z H V w (evP F x) (a.eval x))->∃v,(execOp a.eval o).run P w=.ok (.value v) w/\Rp W.Z H V w p v):PQ P W o F H p:=by intro V a w c d;obtain⟨v,e,b⟩:=h V a w c λx g=>Rp.eval (P:=P) x λt f=>d t X;unfold Oper.wp;rw[e];exact⟨v,rfl,b,Below.refl _ _⟩
def qd(H:PHeap)(id:Nm)(ver:Nat):Option (List PV):=
 match (H id).body with
 |some (.row _ _ _ cs)=>if(H id).ver=ver then some cs else none
 |some (.box _ cs)=>if(H id).ver=ver then some cs else none
 |some (.que _ _ _ cs)=>if(H id).ver=ver then some cs else none
 |_=>none
def J6(H:PHeap)(id:Nm)(ver:Nat):Option (TypeId×Nat×Nat×List PV):=
 match (H id).body with
 |some (.row t k n cs)=>if(H id).ver=ver then some (t,k,n,cs)else none
 |_=>none
def Jw{id:Nm}{ver:Nat}{t k n cs}(h:J6 H id ver=some (t,k,n,cs)):(H id).body=some (.row t k n cs)/\(H id).ver=ver:=by unfold J6 at h;grind
def zly{id:Nm}{ver:Nat}{cs:Wam PV}(a:qd H id ver=some cs):(H id).ver=ver/\∃b,(H id).body=some b/\b.cs=cs/\∀p cs φ,b ≠ .raw p cs φ:=by
 unfold qd at a;split at a<;>first
  |(cases a;done)
  |(rename_i c;split at a<;>cases a;rename_i d;exact⟨d,_,c,rfl,λ_ _ _ h=>X⟩)
def J2{id:Nm}{ver:Nat}{cs:Wam PV}(a:qd H id ver=some cs):(H id).body.isSome=true/\(H id).ver=ver:=by obtain⟨c,b,d,_⟩:=zly a;grind
def Jr(b o n:Nat):(⟨b,o,none⟩:Addr).add n=⟨b,o+n,none⟩:=by unfold Addr.add;simp
def zp7{w:Wao}{m:Nat}{t:Wap}{k n:Nat}{v:Wan}{vs:Wam Wan}(h:w.ownsRow m t k v n vs){g:Nat}(a:qc v=some g)(i:Nat)(u:Wan)(f:vs[i]?=some u):w.cell? ⟨g,i,none⟩=some u:=by
 have b:v.ownBlock=some g:=by
  rcases h.2 with⟨e,_⟩|⟨j,c,d,e,_⟩
  {rw[e]at a;cases a};.rw[e]at a⊢;exact a
 have:=h.cells b i u f;rwa [Jr,wd0]at this
def PBody.Is.off0{w:Wao}{m:Nat}{v:Wan}{vs:Wam Wan}{bd:PBody}(h:bd.Is w m v vs)(d:∀t k n cs,bd ≠ .que t k n cs):zbd v=0:=by cases bd with|row t k n cs=>{rcases h.1.2 with⟨e,_⟩|⟨c,a,b,e,_⟩<;>rw[e]<;>rfl}|box t cs=>{obtain⟨c,rfl,_⟩:=h;rfl}|raw p cs φ=>{obtain⟨g,o,rfl,_⟩:=h;cases p<;>rfl}|que t k n cs=>grind
def PBody.Is.cell{w:Wao}{m:Nat}{v:Wan}{vs:Wam Wan}{bd:PBody}(h:bd.Is w m v vs)(O:∀p cs φ,bd ≠ .raw p cs φ){g:Nat}(d:qc v=some g)(i:Nat)(u:Wan)(z:vs[i]?=some u):w.cell? ⟨g,zbd v+i,none⟩=some u:=by
 cases bd with
 |raw p cs φ=>grind
 |row t k n cs=>rw[PBody.Is.off0 h (λ_ _ _ _ h=>X),wd0];exact zp7 h.1 d i u z
 |box t cs=>obtain⟨f,rfl,_,D,_⟩:=h;cases d;have F:i<vs.toArray.size:=X;show w.cell? ⟨f,0+i,none⟩=_;rw[wd0,cell_of_row w f i _ t (0,0) D];grind
 |que t k n cs=>
  obtain⟨R,q,r,l,P,x,_⟩:=h;have s:=Zh x;rw[d]at s;have L:=zp7 l s.symm (r.length+i) u X;obtain⟨a,Q,c,I,rfl,rfl,M,N,C⟩:=x;have H:=(wcl.1 z).1;have y:=l.1;rcases C with⟨rfl,rfl⟩|⟨b,o,rfl,rfl,j⟩
  {cases d}
  .have G:o=q*k:=by
    rcases j with j|j;{omega}
    .exfalso;rcases l.2 with⟨e,_⟩|⟨f,A,B,e,_⟩
     {grind};grind
   cases d;show w.cell? ⟨b,o+i,none⟩=_;grind
def jdd{V:Nm->Wan}{w:Wao}(n:HRel P W H V w){id:Nm}{ver g:Nat}{cs:Wam PV}(m:qd H id ver=some cs)(k:qc (V id)=some g):
  (H id).body.isSome=true/\(H id).ver=ver/\∀i p,cs[i]?=some p->∃v,w.cell? ⟨g,zbd (V id)+i,none⟩=some v/\Rp W.Z H V w p v:=by
 obtain⟨e,d,f,rfl,h⟩:=zly m;obtain⟨c,j,b⟩:=n.body id d f;refine⟨X,e,λi p l=>?_⟩;have a:i<c.length:=by rw[<- b.1];grind
 exact⟨c[i],j.cell h k i _ (wch a),b.2 i p _ l (wch a)⟩
def Y6(ag:Bool)(k:Nat)(cs:List PV):Option PV:=
 if ag then(if k<=cs.length then some (.agg (cs.take k))else none)else cs[0]?
def zm0{V:Nm->Wan}{w:Wao}{t:Wap}{ag:Bool}{k:Nat}(m:asz P t=some (ag,k)){cs:Wam PV}{b o:Nat}(d:∀i p,cs[i]?=some p->∃v,w.cell? ⟨b,o+i,none⟩=some v/\Rp W.Z H V w p v){q:PV}(a:Y6 ag k cs=some q):
  ∃v,(loadVar t ⟨b,o,none⟩).run P w=.ok v w/\Rp W.Z H V w q v:=by
 obtain⟨n,r⟩:=zgo m w;unfold Y6 at a;cases ag with
 |false=>
  simp[wdr,if_false]at a;obtain⟨v,h,g⟩:=d 0 q a;refine⟨v,?_,g⟩;rw[wd9]at h;unfold loadVar;simp_all
 |true=>
  simp only[if_true]at a;split at a
  ·rename_i y;cases a;have c:∀i,i<k->∃v,w.cell? ⟨b,o+i,none⟩=some v/\∀p,cs[i]?=some p->Rp W.Z H V w p v:=λi l=>by
    obtain⟨v,h,g⟩:=d i cs[i] (wch U)
    grind
   have e:∃f:Nat->Wan,∀i,i<k->w.cell? ⟨b,o+i,none⟩=some (f i)/\∀p,cs[i]?=some p->Rp W.Z H V w p (f i):=by
    refine⟨λi=>((w.cell? ⟨b,o+i,none⟩).getD undef),λi l=>?_⟩
    grind
   obtain⟨f,e⟩:=e;have z:=run_loadCells (P:=P) w ⟨b,o,none⟩ k f (λj x=>by rw[Jr];grind);refine⟨.agg ((range k).map f).toArray,by unfold loadVar;simp_all,.agg _ _ X λi p v s u=>?_⟩
   grind
  grind
def zco(P:Program)(H:PHeap)(t:TypeId)(x:PV):Option PV:=
 match asz P t with
 |none=>none
 |some (c,k)=>
  match x with
  |.rp cs=>Y6 c k cs
  |.pp id a b=>(qd H id b).bind λcs=>Y6 c k (cs.drop a)
  |_=>none
def zuo{V:Nm->Wan}{w:Wao}(A:HRel P W H V w){t:Wap}{y q:PV}{v:Wan}(n:Rp W.Z H V w y v)(c:zco P H t y=some q):∃u,(Instr.loadAt t v).run P w=.ok u w/\Rp W.Z H V w q u:=by
 unfold zco at c;cases d:asz P t with
 |none=>grind
 |some r=>
  obtain⟨C,k⟩:=r;rw[d]at c;simp only at c;split at c;{rename_i cs;cases n with|rp _ b o g hz D s x=>obtain⟨u,B,j⟩:=zm0 d (λi p e=>⟨g i,s i p e,x i p e⟩) c;exact⟨u,by assumption,j⟩}
  .rename_i id l m;cases f:qd H id m with
   |none=>grind
   |some cs=>
    rw[f]at c;simp[wdv]at c;cases n with
    |pp _ _ _ _ G h=>
     have a:=J2 f;obtain⟨g,z,rfl⟩:=h a.1 a.2;obtain⟨_,_,F⟩:=jdd A f z;obtain⟨u,B,j⟩:=zm0 (W:=W) (H:=H) (V:=V) (w:=w) (b:=g) (o:=zbd (V id)+l) d (λi p e=>by
      grind) c
     exact⟨u,by assumption,j⟩
  grind
def fieldAddrP(P:Program)(H:PHeap)(s:TypeId)(f:Nat)(x:PV):Option PV:=
 match fof P s f with
 |none=>none
 |some (a,t)=>
  match asz P t with
  |some (_,k)=>if k=0 then none else
   match x with
   |.rp cs=>some (.rp (cs.drop a))
   |.pp id o b=>(qd H id b).map λ_=> .pp id (o+a) b
   |_=>none
  |none=>none
def jbp{s:Wap}{f off:Nat}{t:Wap}(h:fof P s f=some (off,t)):∃a x,P.underlying s=some (.struct a)/\a[f]?=some x/\x.offset=off/\x.type=t:=by unfold fof at h;grind
def wa5{V:Nm->Wan}{w:Wao}{cs:Wam PV}{b o:Nat}(h:Rp W.Z H V w (.rp cs) (.pointer (some ⟨b,o,none⟩)))(d:Nat):Rp W.Z H V w (.rp (cs.drop d)) (.pointer (some ⟨b,o+d,none⟩)):=by cases h with|rp _ _ _ g hz a e f=>exact .rp _ b (o+d) (λi=>g (d+i)) hz a (λi p c=>X) (λi p c=>X)
def zzy{V:Nm->Wan}{w:Wao}{s:Wap}{f:Nat}{y q:PV}{v:Wan}(z:Rp W.Z H V w y v)(a:fieldAddrP P H s f y=some q):
  ∃u,(Instr.fieldAt s v f).run P w=.ok u w/\Rp W.Z H V w q u:=by
 unfold fieldAddrP at a;cases r:fof P s f with
 |none=>grind
 |some I=>
  obtain⟨G,t⟩:=I;rw[r]at a;simp only at a;obtain⟨M,n,F,i,rfl,rfl⟩:=jbp r;cases p:asz P n.type with
  |none=>grind
  |some A=>
   obtain⟨L,k⟩:=A;rw[p]at a;simp only at a;split at a
   ·grind
   ·rename_i D;have j:=(zgo p w).2;have c:∀b o,(Instr.fieldAt s (.pointer (some ⟨b,o,none⟩)) f).run P w=.ok (.pointer (some ⟨b,o+n.offset,none⟩)) w:=λb o=>by
     simp[Instr.fieldAt,run_underlying F,i,Instr.sureAddr,fieldPlace,j,D,Jr]
    split at a
    ·rename_i cs;cases a;cases z with
     |rp _ b o g hz B d e=>exact⟨_,c b o,wa5 (.rp cs b o g hz B d e) _⟩
    ·rename_i id o m;cases x:qd H id m with
     |none=>grind
     |some cs=>
      rw[x]at a;cases a;obtain⟨d,e⟩:=J2 x;cases z with
      |pp _ _ _ _ l h=>
       obtain⟨g,C,rfl⟩:=h d e;refine⟨_,c g (zbd (V id)+o),.pp _ _ _ _ l λ_ _=>⟨g,C,?_⟩⟩;simp
    grind
end
section
variable{P:Program}{W:Env}{H:PHeap}{F:PFrame}
def PBody.kn:PBody->Option (Nat×Nat)
 |.row _ k n _=>some (k,n)
 |.que _ k n _=>some (k,n)
 |_=>none
def zh7(H:PHeap)(id:Nm)(ver:Nat):Option (Nat×Nat):=match (H id).body with
 |some a=>if(H id).ver=ver then a.kn else none
 |none=>none
def jck{H:Wau}{id:Nm}{ver:Nat}{q:Nat×Nat}(h:zh7 H id ver=some q):(H id).ver=ver/\∃a,(H id).body=some a/\a.kn=some q:=by unfold zh7 at h;grind
def PBody.Is.shape{w:Wao}{m:Nat}{v:Wan}{vs:Wam Wan}{bd:PBody}{q:Nat×Nat}(h:bd.Is w m v vs)(i:bd.kn=some q):∃a c,v=.slice a q.2 c/\(0<q.2->∃b,a=some ⟨b,zbd v,none⟩):=by
 cases bd with
 |row t k n cs=>
  cases i;rcases h.1.2 with⟨e,rfl⟩|⟨j,d,f,e,_⟩
  {grind};.exact⟨_,d,e,λ_=>⟨j,by rw[e];rfl⟩⟩
 |que t k n cs=>
  cases i;obtain⟨F,g,C,l,D,⟨a,B,c,s,h0,rfl,A,z,u⟩,_⟩:=h;have y:B=g+n:=by
   rcases l.2 with⟨e,x⟩|⟨j,d,f,e,_⟩
   {grind};grind
  refine⟨s,c-g,X,λr=>?_⟩;rcases u with⟨rfl,rfl⟩|⟨b,o,rfl,rfl,_⟩
  .rcases l.2 with⟨e,x⟩|⟨j,d,f,e,_⟩
   {omega};grind
  .exact⟨b,rfl⟩
 |box t cs=>cases i
 |raw p cs φ=>cases i
def PBody.Is.one{w:Wao}{m:Nat}{v:Wan}{vs:Wam Wan}{bd:PBody}(h:bd.Is w m v vs):v.oneCell'=true:=by cases bd with|row t k n cs=>{rcases h.1.2 with⟨e,_⟩|⟨l,b,d,e,_⟩<;>rw[e]<;>rfl}|box t cs=>{obtain⟨g,rfl,_⟩:=h;rfl}|raw p cs φ=>{obtain⟨g,o,rfl,_⟩:=h;cases p<;>rfl}|que t k n cs=>obtain⟨q,f,i,_,_,⟨a,n,c,j,_,rfl,_⟩,_⟩:=h;rfl
def V4(H:PHeap):PV->Bool
 |.u v=>v.oneCell'
 |.sl _ _|.fr _ _ _|.rp _|.fn _ _ _=>true
 |.ps id a=>(H id).body.isSome && Nat.beq (H id).ver a
 |.qs id _ _ a=>(J6 H id a).isSome
 |.pp id _ a=>(qd H id a).isSome
 |_=>false
def okC(H:PHeap):PV->Bool
 |.agg cs=>cs.all (V4 H)
 |p=>V4 H p
def Rp.leaf{V:Nm->Wan}{w:Wao}(B:HRel P W H V w){p:PV}{v:Wan}(h:Rp W.Z H V w p v)(d:V4 H p=true):v.oneCell'=true:=by cases h with|u v=>{exact d}|nil k a c=>{rfl}|sl=>{rfl}|fr t k I v r D A=>{rcases A.2 with⟨e,_⟩|⟨g,x,y,e,_⟩<;>rw[e]<;>rfl}|rp=>{rfl}|fn=>{rfl}|ps id b v o h=>{simp only[V4,wco]at d;rw[h d.1 (wcn d.2)];obtain⟨s,m⟩:=wdh.1 d.1;obtain⟨G,f,_⟩:=B.body id s m;exact f.one}|qs id l F b v o h=>{simp[V4]at d;cases i:J6 H id b with|none=>{grind}|some q=>obtain⟨t,k,n,cs⟩:=q;obtain⟨m,j⟩:=Jw i;obtain⟨a,n,c,C,_,e,_⟩:=h X j;rw[e];rfl}|pp id l b v o h=>{simp[V4]at d;cases i:qd H id b with|none=>{grind}|some q=>obtain⟨f,z⟩:=J2 i;obtain⟨g,_,rfl⟩:=h f z;rfl}|_=>trivial
def Rp.cells{V:Nm->Wan}{w:Wao}(C:HRel P W H V w){p:PV}{v:Wan}(h:Rp W.Z H V w p v)(x:okC H p=true):RpL W.Z H V w p.cells v.cells.toList/\∀u∈v.cells.toList,u.oneCell'=true:=by
 cases h with
 |agg cs N T n=>simp[okC,wdu]at x;refine⟨⟨by assumption,λi p v j m=>n i p v j (by simpa [Value.cells]using m)⟩,λu y=>?_⟩;simp only[Value.cells]at y;obtain⟨i,S,rfl⟩:=wei y;have F:i<N.size:=U;have A:i<cs.length:=U;have:=n i cs[i] N[i] (wch A) (wdf F);have:=this.leaf C (x _ (wcm A));grind
 |tup=>trivial
 |unk=>trivial
 |u v=>
  have j:v.oneCell'=true:=x;(have n:v.cells = #[v]:=by cases v<;>first|rfl|trivial);rw[n];exact⟨⟨rfl,λi p u j m=>by
   cases i with
   |zero=>simp[PV.cells]at j m;subst j m;exact .u _
   |succ i=>grind⟩,X⟩
 |nil k a c=>
  exact⟨⟨rfl,λi p u j m=>by
   cases i with
   |zero=>simp[PV.cells,Value.cells]at j m;subst j m;exact .nil _ _ _
   |succ i=>trivial⟩,by simp[Value.cells,Value.oneCell']⟩
 |sl k D b o c g y B hz z j m=>
  exact⟨⟨rfl,λi p u d e=>by
   cases i with
   |zero=>simp[PV.cells,Value.cells]at d e;subst d e;exact .sl k D b o c g y B hz z j m
   |succ i=>trivial⟩,by simp[Value.cells,Value.oneCell']⟩
 |fr t k D v s y L hz j m=>
  have O:=Rp.leaf C (.fr t k D v s y L hz j m) x;(have n:v.cells = #[v]:=by cases v<;>first|rfl|trivial);rw[n];exact⟨⟨rfl,λi p u d e=>by
   cases i with
   |zero=>simp[PV.cells]at d e;subst d e;exact .fr t k D _ s y L hz j m
   |succ i=>grind⟩,X⟩
 |rp cs b o g hz z j m=>
  exact⟨⟨rfl,λi p u d e=>by
   cases i with
   |zero=>simp[PV.cells,Value.cells]at d e;subst d e;exact .rp cs b o g hz z j m
   |succ i=>trivial⟩,by simp[Value.cells,Value.oneCell']⟩
 |fn f a b R vb G I Q z=>
  exact⟨⟨rfl,λi p u d e=>by
   cases i with
   |zero=>simp[PV.cells,Value.cells]at d e;subst d e;exact .fn f a b R vb G I Q z
   |succ i=>trivial⟩,by simp[Value.cells,Value.oneCell']⟩
 |ps id l v r h=>
  have j:=Rp.leaf C (.ps id l v r h) x;(have n:v.cells = #[v]:=by cases v<;>first|rfl|trivial);rw[n];exact⟨⟨rfl,λi p u d e=>by
   cases i with
   |zero=>simp[PV.cells]at d e;subst d e;exact .ps id l _ r h
   |succ i=>grind⟩,X⟩
 |qs id q M l v r h=>
  have j:=Rp.leaf C (.qs id q M l v r h) x;(have n:v.cells = #[v]:=by cases v<;>first|rfl|trivial);rw[n];exact⟨⟨rfl,λi p u d e=>by
   cases i with
   |zero=>simp[PV.cells]at d e;subst d e;exact .qs id q M l _ r h
   |succ i=>grind⟩,X⟩
 |pp id q l v r h=>
  have j:=Rp.leaf C (.pp id q l v r h) x;(have n:v.cells = #[v]:=by cases v<;>first|rfl|trivial);rw[n];exact⟨⟨rfl,λi p u d e=>by
   cases i with
   |zero=>simp[PV.cells]at d e;subst d e;exact .pp id q l _ r h
   |succ i=>grind⟩,X⟩
def z3t:PV->Option Value
 |.u v=>some v
 |_=>none
def PV.val2:PV->Option Value
 |.u v=>some v
 |.agg cs=>(cs.mapM z3t).map λl=> .agg l.toArray
 |_=>none
def zys:∀{cs:Wam PV}{l:Wam Wan},cs.mapM z3t=some l->cs=l.map .u
 |[],l,h=>X
 |c::cs,l,h=>by simp[ Option.bind_eq_bind]at h;cases a:z3t c with|none=>{grind}|some v=>cases b:cs.mapM z3t with|none=>{grind}|some m=>rw[a,b]at h;simp at h;subst h;have:c=.u v:=by{cases c<;>simp[z3t]at a;grind};rw[this,zys b];rfl
def Rp.val2{V:Nm->Wan}{w:Wao}{p:PV}{v u:Wan}(h:Rp W.Z H V w p v)(a:p.val2=some u):v=u:=by cases h with|u v=>{simpa [PV.val2]using a}|agg cs b k j=>{simp[PV.val2,wct]at a;obtain⟨l,d,rfl⟩:=a;have e:=zys d;subst e;congr 1;apply Array.ext';apply wd1;intro i;simp at k;by_cases n:i<l.length;{have g:(l.map PV.u)[i]?=some (.u l[i]):=Waf;have c:i<b.size:=U;have f:=j i _ b[i] g (wdf c);have m:b[i]=l[i]:=by{generalize b[i]=q at f;cases f;rfl};grind};grind}|_=>simp[PV.val2]at a
def J5(P:Program)(op:BinOp)(t:TypeId)(x y:Operand)(p q:PV):Option PV:=
 match p.val2,q.val2 with
 |some a,some b=>((do eqGuard op t x y a b;binOp op t a b:Sem Value).val P).map ofV
 |_,_=>none
def unP(P:Program)(op:UnOp)(p:PV):Option PV:=
 match p.val2 with
 |some a=>((Op.unary op a).val P).map ofV
 |none=>none
def jh1(P:Program)(s d:TypeId)(p:PV):Option PV:=
 match p.val2 with
 |some a=>((convert s d a).val P).map ofV
 |none=>none
def z7f(P:Program)(b:Builtin)(ts:Array TypeId)(ty:TypeId)(ps:List PV):Option PV:=
 match ps.mapM PV.val2 with
 |some a=>
  match b with
  |.min=>((Builtin.min_ ts ty a.toArray).val P).map ofV
  |.max=>((Builtin.max_ ts ty a.toArray).val P).map ofV
  |_=>none
 |none=>none
def zcu(P:Program)(t:TypeId):Bool:=match P.underlying t with|some (.slice _)=>true|_=>false
def zek(P:Program)(t:TypeId):Bool:=match P.underlying t with|some .string=>true|_=>false
def lenP(P:Program)(H:PHeap)(t:TypeId)(p:PV):Option PV:=
 match p with
 |.sl _ b=>if zcu P t then some (.u (.int .i64 b.length))else none
 |.ps id a=>if zcu P t then(zh7 H id a).map λq=> .u (.int .i64 q.2)else none
 |.u (.slice _ n _)=>if zcu P t then some (.u (.int .i64 n))else none
 |.u (.string s)=>if zek P t then some (.u (.int .i64 s.size))else none
 |_=>none
def zd9{t:Wap}(b:zcu P t=true)(ty:Wap)(a:Wal Addr)(n c:Nat)(w:Wao):(Builtin.len_ #[t] ty #[.slice a n c]).run P w=.ok (.int .i64 n) w:=by unfold zcu at b;split at b;{rename_i e d;simp[Builtin.len_,run_underlying d,goInt]};grind
def jam{t:Wap}(a:zek P t=true)(ty:Wap)(s:ByteArray)(w:Wao):(Builtin.len_ #[t] ty #[.string s]).run P w=.ok (.int .i64 s.size) w:=by unfold zek at a;split at a;{rename_i b;simp[Builtin.len_,run_underlying b,goInt]};grind
def HRel.rs_shape{V:Nm->Wan}{w:Wao}(k:HRel P W H V w){id:Nm}{ver:Nat}{q}(h:zh7 H id ver=some q){v:Wan}(l:Rp W.Z H V w (.ps id ver) v):v=V id/\∃a c,v=.slice a q.2 c/\(0<q.2->∃b,a=some ⟨b,zbd v,none⟩):=by obtain⟨d,e,g,j⟩:=jck h;cases l with|ps _ _ _ m i=>rw[i X d];obtain⟨n,f,_⟩:=k.body id e g;exact⟨rfl,f.shape j⟩
def Rp.sl_shape{V:Nm->Wan}{w:Wao}{k:Nat}{xs:Wam PV}{v:Wan}(h:Rp W.Z H V w (.sl k xs) v):∃a c,v=.slice a xs.length c/\xs.length<=c\/xs=[]/\v=.slice a 0 c:=by cases h with|nil k a c=>{simp}|sl k xs b o c g e d=>grind
def jsb{V:Nm->Wan}{w:Wao}(h:HRel P W H V w){t ty:Wap}{y q:PV}{v:Wan}(e:Rp W.Z H V w y v)(b:lenP P H t y=some q):∃u,(Builtin.len_ #[t] ty #[v]).run P w=.ok u w/\Rp W.Z H V w q u:=by unfold lenP at b;split at b;{split at b;{rename_i i d;cases b;obtain⟨a,c,⟨rfl,_⟩|⟨rfl,rfl⟩⟩:=e.sl_shape;{exact⟨_,zd9 d ty _ _ _ _,.u _⟩};.exact⟨_,zd9 d ty _ _ _ _,.u _⟩};grind};{split at b;{rename_i id f d;cases g:zh7 H id f with|none=>{grind}|some r=>rw[g]at b;cases b;obtain⟨_,a,c,rfl,_⟩:=h.rs_shape g e;exact⟨_,zd9 d ty _ _ _ _,.u _⟩};grind};{split at b;{rename_i d;cases b;cases e;exact⟨_,zd9 d ty _ _ _ _,.u _⟩};grind};{split at b;{rename_i d;cases b;cases e;exact⟨_,jam d ty _ _,.u _⟩};grind};grind
def zxd{k:Nat}:∀{xs:Wam PV},(∀y∈xs,y.cells.length=k)->∀i j y,xs[i]?=some y->j<k->(xs.flatMap PV.cells)[i*k+j]?=y.cells[j]?
 |[],_,i,j,y,h,_=>X
 |x::xs,a,0,j,y,h,b=>by grind
 |x::xs,a,i+1,j,y,h,b=>by have c:=a x V;rw[wdj,wcz X,c,show(i+1)*k+j-k=i*k+j by grind];exact zxd (λy d=>a y X) i j y h b
def indexAddrP(P:Program)(H:PHeap)(t:TypeId)(p i:PV):Option PV:=
 match i with
 |.u (.int _ z)=>
  if 0<=z then
   match p with
   |.sl k c=>if esz P t=some k then(c[z.toNat]?).map λy=> .rp y.cells else none
   |.ps id a=>
    match zh7 H id a with
    |some (k,n)=>if esz P t=some k/\z.toNat<n then some (.pp id (z.toNat*k) a)else none
    |none=>none
   |.pp id b a=>
    match arr P t with
    |some (n,k)=>if z.toNat<n then(qd H id a).map λ_=> .pp id (b+z.toNat*k) a else none
    |none=>none
   |.rp cs=>
    match arr P t with
    |some (n,k)=>if z.toNat<n then some (.rp (cs.drop (z.toNat*k)))else none
    |none=>none
   |_=>none
  else none
 |_=>none
def zhc{t e:Wap}{i:TypeInfo}(d:P.underlying t=some (.slice e))(hi:P.info? e=some i)(w:Wao)(b o n c:Nat)(f:Was)(z:Int)(h0:0<=z)(hz:z.toNat<n):
  (Instr.indexAt t (.slice (some ⟨b,o,none⟩) n c) (.int f z)).run P w=.ok (.pointer (some ⟨b,o+z.toNat*i.size,none⟩)) w:=by
 have a:z<n:=U;simp[Instr.indexAt,run_underlying d,asIntOf,sizeOf,typeInfo,hi,h0,a,Jr]
def zkt{t e:Wap}{i:TypeInfo}{n:Nat}(c:P.underlying t=some (.array n e))(hi:P.info? e=some i)(w:Wao)(b o:Nat)(d:Was)(z:Int)(h0:0<=z)(hz:z.toNat<n):
  (Instr.indexAt t (.pointer (some ⟨b,o,none⟩)) (.int d z)).run P w=.ok (.pointer (some ⟨b,o+z.toNat*i.size,none⟩)) w:=by
 have a:z<n:=U;simp[Instr.indexAt,Instr.sureAddr,run_underlying c,asIntOf,sizeOf,typeInfo,hi,h0,a,Jr]
def zyt{V:Nm->Wan}{w:Wao}(hr:HRel P W H V w){t:Wap}{y i q:PV}{v u:Wan}(C:Rp W.Z H V w y v)(hi:Rp W.Z H V w i u)(d:indexAddrP P H t y i=some q):
  ∃r,(Instr.indexAt t v u).run P w=.ok r w/\Rp W.Z H V w q r:=by
 unfold indexAddrP at d;split at d
 rotate_left
 ·grind
 rename_i I z;cases hi;split at d
 rotate_left
 ·grind
 rename_i h0;split at d
 ·rename_i k S;split at d
  ·rename_i he;obtain⟨e,l,s,f,rfl⟩:=zgx he;cases G:S[z.toNat]? with
   |none=>grind
   |some y=>
    rw[G]at d;cases d;cases C with
    |nil=>grind
    |sl k S b o c g J Y hz B x A=>
     have M:=(wcl.1 G).1;refine⟨_,zhc s f w b o S.length c I z h0 M,.rp _ b _ (λj=>g (z.toNat*l.size+j)) hz B (λj p hj=>?_) (λj p hj=>?_)⟩
     ·have m:j<l.size:=X;have:=x (z.toNat*l.size+j) p (by rw[zxd J _ j y G m];omega)
      grind
     ·have m:j<l.size:=X;exact A (z.toNat*l.size+j) p (by rw[zxd J _ j y G m];omega)
  grind
 ·rename_i id D;split at d
  ·rename_i k n F;split at d
   ·rename_i T;cases d;obtain⟨e,l,s,f,rfl⟩:=zgx T.1;obtain⟨eV,a,c,hv,B⟩:=hr.rs_shape F C;obtain⟨b,rfl⟩:=B U;have a5:zbd v=zbd (V id):=X;cases C with
    |ps _ _ _ Q hh=>
     rw[hv];refine⟨_,zhc s f w b _ n c I z h0 T.2,.pp _ _ _ _ Q λ_ _=>⟨b,by rw[<- eV,hv];rfl,Waf⟩⟩
   grind
  grind
 ·rename_i id R D;split at d
  ·rename_i n k L;split at d
   ·rename_i N;cases F:qd H id D with
    |none=>grind
    |some cs=>
     rw[F]at d;cases d;obtain⟨x,A⟩:=J2 F;obtain⟨e,l,s,f,rfl⟩:=zze L;cases C with
     |pp _ _ _ _ O h=>
      obtain⟨g,hg,rfl⟩:=h x A;refine⟨_,zkt s f w g (zbd (V id)+R) I z h0 N,.pp _ _ _ _ O λ_ _=>⟨g,hg,?_⟩⟩;simp
   grind
  grind
 ·rename_i cs;split at d
  ·rename_i n k L;split at d
   ·rename_i N;cases d;obtain⟨e,l,s,f,rfl⟩:=zze L;cases C with
    |rp _ b o g hz B x A=>exact⟨_,zkt s f w b o I z h0 N,wa5 (.rp cs b o g hz B x A) _⟩
   grind
  grind
 grind
def z4m(P:Program)(t:TypeId)(cs:List PV)(off:Nat):Option PV:=
 match asz P t with
 |some (a,k)=>Y6 a k (cs.drop off)
 |none=>none
def z5q{V:Nm->Wan}{w:Wao}{t:Wap}{cs:Wam PV}{vs:Array Wan}{off:Nat}{q:PV}(o:cs.length=vs.size)(g:∀(i:Nat)p v,cs[i]?=some p->vs[i]?=some v->Rp W.Z H V w p v)(a:z4m P t cs off=some q):
  ∃u,(part t vs off).run P w=.ok u w/\Rp W.Z H V w q u:=by
 unfold z4m at a;cases b:asz P t with
 |none=>grind
 |some e=>
  obtain⟨d,k⟩:=e;rw[b]at a;obtain⟨f,j⟩:=zgo b w;unfold Y6 at a;cases d with
  |false=>
   simp[ wd9]at a;have h:=(wcl.1 a).1;have c:=wdf (show off<vs.size by omega);exact⟨vs[off]'U,by unfold part;simp[ f,c],g off q _ a c⟩
  |true=>
   simp only[if_true,List.length_drop]at a;split at a
   ·rename_i n;cases a;refine⟨.agg (vs.extract off (off+k)),by unfold part;simp_all,?_⟩;refine .agg _ _ X λi p v l m=>?_
    grind
   grind
def z6n(P:Program)(t:TypeId)(f:Nat)(p:PV):Option PV:=
 match fof P t f,p with
 |some (a,b),.agg cs=>z4m P b cs a
 |_,_=>none
def jf4{V:Nm->Wan}{w:Wao}{t:Wap}{f:Nat}{y q:PV}{v:Wan}(j:Rp W.Z H V w y v)(b:z6n P t f y=some q):∃u,(Instr.field t v f).run P w=.ok u w/\Rp W.Z H V w q u:=by unfold z6n at b;split at b;{rename_i k m cs e;obtain⟨l,n,i,a,rfl,rfl⟩:=jbp e;cases j with|agg _ o g d=>obtain⟨u,c,h⟩:=z5q g d b;exact⟨u,by simp[Instr.field,run_underlying i,a,asAgg,c],h⟩};grind
def zof(P:Program)(t:TypeId)(p i:PV):Option PV:=
 match i with
 |.u (.int a z)=>
  match p with
  |.agg cs=>
   match arr P t,jnn P t with
   |some (n,k),some e=>if 0<=z/\z.toNat<n then z4m P e cs (z.toNat*k)else none
   |_,_=>none
  |.u (.string s)=>if zek P t then(if 0<=z then(s[z.toNat]?).map λb=> .u (.int .u8 b.toNat)else none)else none
  |_=>none
 |_=>none
def jd4{V:Nm->Wan}{w:Wao}{t:Wap}{y i q:PV}{v u:Wan}(j:Rp W.Z H V w y v)(hi:Rp W.Z H V w i u)(a:zof P t y i=some q):∃r,(Instr.index t v u).run P w=.ok r w/\Rp W.Z H V w q r:=by
 unfold zof at a;split at a;rotate_left
 {grind};rename_i F z;cases hi;split at a;{rename_i cs;split at a;{rename_i n k e m p;split at a;{rename_i hz;obtain⟨l,G,C,d,rfl⟩:=zze m;have c:l=e:=by{unfold jnn at p;grind};subst c;cases j with|agg _ I x o=>obtain⟨r,B,A⟩:=z5q x o a;have f:z<n:=U;exact⟨r,by simp[Instr.index,run_underlying C,asIntOf,hz.1,f,sizeOf,typeInfo,d,B],A⟩};grind};grind};{rename_i s;cases j;split at a;{rename_i h;split at a;{rename_i h0;cases g:s[z.toNat]? with|none=>{grind}|some b=>rw[g]at a;cases a;unfold zek at h;split at h;{rename_i D;exact⟨_,by simp[Instr.index,run_underlying D,asIntOf,h0,g],.u _⟩};grind};grind};grind};grind
def zjx(d:Nat):Option PV->Option Nat
 |none=>some d
 |some (.u (.int _ z))=>if 0<=z then some z.toNat else none
 |_=>none
def zs5(P:Program)(t:TypeId)(p:PV)(lo hi:Option PV):Option PV:=
 match p with
 |.sl k a=>
  match zjx 0 lo,zjx a.length hi with
  |some l,some h=>if esz P t=some k/\l<=h/\h<=a.length then some (.sl k ((a.take h).drop l))else none
  |_,_=>none
 |.u (.string s)=>
  match zjx 0 lo,zjx s.size hi with
  |some l,some h=>if zek P t/\l<=h/\h<=s.size then some (.u (.string (s.extract l h)))else none
  |_,_=>none
 |_=>none
def zca{w:Wao}{a:Was}{z:Int}(h0:0<=z){n:Nat}(hz:z.toNat<=n)(c:BoundsCode):(Instr.sliceBound (.int a z) n c).run P w=.ok z.toNat w:=by have:z<=n:=U;simp[Instr.sliceBound,asIntOf,h0,this]
def zjz{V:Nm->Wan}{w:Wao}{d l:Nat}{lo:Wal PV}{vo:Wal Wan}(b:∀p v,lo=some p->vo=some v->Rp W.Z H V w p v)(f:lo.isSome=vo.isSome)(a:zjx d lo=some l):
  (vo=none/\l=d)\/∃c z,vo=some (.int c z)/\0<=z/\z.toNat=l:=by
 cases lo with
 |none=>
  cases vo with
  |none=>simp[zjx]at a;grind
  |some v=>grind
 |some p=>
  cases vo with
  |none=>grind
  |some v=>
   have e:=b p v rfl rfl;unfold zjx at a;split at a
   ·grind
   ·rename_i c z h;cases h;split at a
    ·rename_i h0;cases a;cases e
     grind
    grind
   grind
def zpa{k:Nat}:∀{xs:Wam PV},(∀y∈xs,y.cells.length=k)->∀m,(xs.take m).flatMap PV.cells=(xs.flatMap PV.cells).take (m*k)
 |[],_,m=>V
 |x::xs,a,0=>V
 |x::xs,a,m+1=>by have b:=a x V;rw[List.take_succ_cons,wdj,wdj,zpa (λy c=>a y X) m,List.take_append,b,we4,Nat.one_mul,Nat.add_sub_cancel,wd8 (show x.cells.length<=m*k+k by omega)]
def zqx{k:Nat}:∀{xs:Wam PV},(∀y∈xs,y.cells.length=k)->∀m,(xs.drop m).flatMap PV.cells=(xs.flatMap PV.cells).drop (m*k)
 |[],_,m=>V
 |x::xs,a,0=>V
 |x::xs,a,m+1=>by have b:=a x V;rw[List.drop_succ_cons,wdj,zqx (λy c=>a y X) m,List.drop_append,b,we4,Nat.one_mul,Nat.add_sub_cancel,we8 (show x.cells.length<=m*k+k by omega),web]
def wb7{V:Nm->Wan}{w:Wao}{k:Nat}{xs:Wam PV}{b o c:Nat}(h:Rp W.Z H V w (.sl k xs) (.slice (some ⟨b,o,none⟩) xs.length c))(l m f:Nat)(z:l<=m)(hm:m<=xs.length)(x:m-l<=f)(r:xs≠[]):Rp W.Z H V w (.sl k ((xs.take m).drop l)) (.slice (some ⟨b,o+l*k,none⟩) (m-l) f):=by cases h with|nil=>{grind}|sl _ _ _ _ _ g s q hz u v t=>have j:((xs.take m).drop l).length=m-l:=X;have d:∀y∈xs.take m,y.cells.length=k:=λy n=>s y (wfd n);have a:∀i p,(((xs.take m).drop l).flatMap PV.cells)[i]?=some p->(xs.flatMap PV.cells)[l*k+i]?=some p:=λi p e=>by{rw[zqx d,List.getElem?_drop,zpa s,wes]at e;grind};have:=Rp.sl k ((xs.take m).drop l) b (o+l*k) f (λi=>g (l*k+i)) (λy n=>d y (wfe n)) U hz u (λi p e=>X) (λi p e=>t _ p (a i p e));grind
def Jn{w:Wao}{isS:Bool}{len cap l h:Nat}{lo hi:Wal Wan}(b:(lo=none/\l=0)\/∃c z,lo=some (.int c z)/\0<=z/\z.toNat=l)(d:(hi=none/\h=len)\/∃c z,hi=some (.int c z)/\0<=z/\z.toNat=h)(f:l<=h)(g:h<=cap):
  (Instr.sliceBounds isS len cap lo hi none).run P w=.ok (l,h,cap) w:=by
 unfold Instr.sliceBounds;rcases d with⟨rfl,rfl⟩|⟨c,z,rfl,h0,rfl⟩
 ·rcases b with⟨rfl,rfl⟩|⟨e,i,rfl,a,rfl⟩
  ·simp
  ·simp[zca a f]
 ·rcases b with⟨rfl,rfl⟩|⟨e,i,rfl,a,rfl⟩
  ·simp[zca h0 g]
  ·simp[zca h0 g,zca a f]
def jgo{V:Nm->Wan}{w:Wao}{t:Wap}{y q:PV}{lo hi:Wal PV}{v:Wan}{vl vh:Wal Wan}(hx:Rp W.Z H V w y v)(A:∀p v,lo=some p->vl=some v->Rp W.Z H V w p v)(F:lo.isSome=vl.isSome)(x:∀p v,hi=some p->vh=some v->Rp W.Z H V w p v)(D:hi.isSome=vh.isSome)
  (i:zs5 P t y lo hi=some q):∃r,(Instr.sliceAt t v vl vh none).run P w=.ok r w/\Rp W.Z H V w q r:=by
 unfold zs5 at i;split at i
 ·rename_i k M;split at i
  ·rename_i l h T S;split at i
   ·rename_i Q;cases i;obtain⟨L,I,j⟩:=Q;obtain⟨e,ti,ht,G,rfl⟩:=zgx L;have f:=zjz A F T;have d:=zjz x D S;obtain⟨a,c,⟨rfl,n⟩|⟨rfl,rfl⟩⟩:=hx.sl_shape
    ·have C:(Instr.sliceAt t (.slice a M.length c) vl vh none).run P w=.ok (.slice (if c=l then a else a.map (·.add (l*ti.size))) (h-l) (c-l)) w:=by
      have m:=Jn (P:=P) (w:=w) (isS:=true) f d I (wdt j n);simp[Instr.sliceAt,Instr.slice,run_underlying ht,m,sizeOf,typeInfo,G]
     refine⟨_,C,?_⟩;by_cases Y:l=h
     ·subst Y;have:(M.take l).drop l=[]:=Waf;rw[this,Nat.sub_self];exact .nil _ _ _
     ·have B:M≠[]:=X;have R:¬(c=l):=U;rw[if_neg R];cases hx with
      |nil=>grind
      |sl _ _ b o _ g J z hz O h3 h4=>
       simp[ Jr];exact wb7 (.sl _ M b o c g J z hz O h3 h4) l h (c-l) I j U B
    ·simp[ Nat.le_zero]at j;subst j;have N:l=0:=U;subst N;have m:=Jn (P:=P) (w:=w) (isS:=true) (len:=0) f (by simpa using d) (wcs 0) (wdz c);refine⟨.slice (if c=0 then a else a.map (·.add (0*ti.size))) (0-0) (c-0),by simp[Instr.sliceAt,Instr.slice,run_underlying ht,m,sizeOf,typeInfo,G],?_⟩;exact .nil _ _ _
   grind
  grind
 ·rename_i s;split at i
  ·rename_i l h T S;split at i
   ·rename_i Q;cases i;obtain⟨L,I,j⟩:=Q;cases hx;have f:=zjz A F T;have d:=zjz x D S;unfold zek at L;split at L
    ·rename_i J;have m:=Jn (P:=P) (w:=w) (isS:=false) f d I j;exact⟨_,by simp[Instr.sliceAt,Instr.slice,run_underlying J,m],.u _⟩
    grind
   grind
  grind
 grind
end
section
variable{P:Program}{W:Env}{n:Nat}{H:PHeap}{F:PFrame}
def setMany{α:Type}(cs:List α)(off:Nat)(ps:List α):List α:=cs.take off++ps++cs.drop (off+ps.length)
def Zr{α:Type}(cs ps:Wam α)(off:Nat)(h:off+ps.length<=cs.length)(i:Nat):(setMany cs off ps)[i]?=if off<=i/\i<off+ps.length then ps[i-off]? else cs[i]?:=by unfold setMany;have a:(cs.take off).length=off:=X;grind
def Qt{α:Type}(cs ps:Wam α)(off:Nat)(h:off+ps.length<=cs.length):(setMany cs off ps).length=cs.length:=by unfold setMany;grind
def jbl(off:Nat):∀l k(cells:Array Wan),off+k+l.length<=cells.size ->
  ((l.zipIdx k).foldl (λcs(x:Wan×Nat)=>cs.setIfInBounds (off+x.2) x.1) cells).toList=setMany cells.toList (off+k) l
 |[],k,cells,h=>by simp[setMany]
 |v::l,k,cells,h=>by simp[List.zipIdx_cons,List.foldl_cons];rw[jbl off l (k+1) _ X];simp[wdq]at h;apply wd1;intro i;rw[Zr _ _ _ X,Zr _ _ _ U];grind
def zke(H:PHeap)(places:List (Nat×Nat)):List PV->List (Nat×PV)->Option (List PV)
 |cs,[]=>some cs
 |cs,(i,p)::c=>
  match places[i]? with
  |none=>none
  |some (b,a)=>if p.cells.length=a/\b+a<=cs.length/\okC H p=true then zke H places (setMany cs b p.cells) c else none
def RpL.setMany{V:Nm->Wan}{w:Wao}{cs ps:Wam PV}{vs us:Wam Wan}(h:RpL W.Z H V w cs vs)(d:RpL W.Z H V w ps us){off:Nat}(e:off+ps.length<=cs.length):RpL W.Z H V w (setMany cs off ps) (setMany vs off us):=by have f:=h.1;have g:=d.1;refine⟨by rw[Qt _ _ _ e,Qt _ _ _ U,f],λi p v b a=>?_⟩;rw[Zr _ _ _ e]at b;rw[Zr _ _ _ U,<- g]at a;split at b;{rename_i c;rw[if_pos c]at a;exact d.2 _ p v b a};.rename_i c;rw[if_neg c]at a;exact h.2 _ p v b a
def zhw{α:Type}{cs ps:Wam α}{off:Nat}{x:α}(h:x∈setMany cs off ps):x∈cs\/x∈ps:=by unfold setMany at h;grind
def RpParts(Z:ZM)(H:PHeap)(V:Nm->Value)(w:World)(ps:List (Nat×PV))(vs:List (Nat×Value)):Prop:=ps.length=vs.length/\∀(i:Nat)(p:Nat×PV)(v:Nat×Value),ps[i]?=some p->vs[i]?=some v->p.1=v.1/\Rp Z H V w p.2 v.2
def zj9{V:Nm->Wan}{w:Wao}(I:HRel P W H V w){place:Nat->Wal (Nat×Nat)}{places:Wam (Nat×Nat)}(G:∀i x,places[i]?=some x->place i=some x):∀(ps:Wam (Nat×PV))(vs:Wam (Nat×Wan))(cs:Wam PV)(arr:Array Wan)(q:Wam PV),
  RpParts W.Z H V w ps vs->RpL W.Z H V w cs arr.toList->(∀v∈arr.toList,v.oneCell'=true)->zke H places cs ps=some q->∃r,Instr.fill place arr vs=some r/\RpL W.Z H V w q r.toList/\∀v∈r.toList,v.oneCell'=true
 |[],[],cs,arr,q,_,o,t,l=>by simp[zke,wdn]at l;subst l;exact⟨arr,rfl,o,t⟩
 |[],_::_,_,_,_,h,_,_,_=>by have:=h.1;grind
 |_::_,[],_,_,_,h,_,_,_=>by have:=h.1;grind
 |(i,p)::ps,(j,v)::vs,cs,arr,q,h,o,t,l=>by
  obtain⟨e,m⟩:=h.2 0 _ _ rfl rfl;simp only at e m;subst e;simp[zke]at l;split at l;{grind}
  .rename_i f n z;split at l
   .rename_i g;obtain⟨L,D,y⟩:=g;obtain⟨c,F⟩:=m.cells I y;have N:v.cells.size=n:=by{rw[<- L];have:=c.1;grind};have C:arr.size=cs.length:=by{have:=o.1;grind};have d:(v.cells.zipIdx.foldl (λcs(x:Wan×Nat)=>cs.setIfInBounds (f+x.2) x.1) arr).toList=setMany arr.toList f v.cells.toList:=by{have:=jbl f v.cells.toList 0 arr X;rw[wd9]at this;rw[<- this,<- Array.foldl_toList,Array.toList_zipIdx]};obtain⟨r,M,A,B⟩:=zj9 I G ps vs _ (v.cells.zipIdx.foldl (λcs(x:Wan×Nat)=>cs.setIfInBounds (f+x.2) x.1) arr) q ⟨by have:=h.1;grind,λk a b O Q=>h.2 (k+1) a b X X⟩
     (by rw[d];exact o.setMany c U) (by rw[d];intro u s;rcases zhw s with s|s;exact t u s;grind) l
    refine⟨r,?_,A,B⟩;simp[Instr.fill,G i _ z];grind
   grind
def jrd(P:Program)(t:TypeId):Option (List PV×List (Nat×Nat)):=
 match (P.info? t).bind (·.zero)with
 |none=>none
 |some z=>
  match P.underlying t with
  |some (.struct a)=>(a.toList.mapM λf=>(P.info? f.type).map λi=>(f.offset,i.size)).map λl=>(z.cells.toList.map .u,l)
  |some (.array m e)=>(P.info? e).map λi=>(z.cells.toList.map .u,(range m).map λj=>(j*i.size,i.size))
  |_=>none
def jcp{α β:Type}(f:α->Sem β):∀l:Wam α,(l.mapM f).val P=l.mapM λa=>(f a).val P
 |[]=>Wab
 |a::l=>by simp only[List.mapM_cons,ve,vm,jcp f l];rfl
def RpL.us{V:Nm->Wan}{w:Wao}(vs:Wam Wan):RpL W.Z H V w (vs.map .u) vs:=⟨Waf,λi p v a b=>by
 rw[wcv,b]at a;cases a;exact .u _⟩
def z7b(P:Program)(H:PHeap)(t:TypeId)(b:List (Nat×PV)):Option PV:=
 match jrd P t with
 |none=>none
 |some (c,a)=>if c.all (V4 H)then(zke H a c b).map .agg else none
def jgn{V:Nm->Wan}{w:Wao}(L:HRel P W H V w){t:Wap}{ps:Wam (Nat×PV)}{vs:Array (Nat×Wan)}{q:PV}(I:RpParts W.Z H V w ps vs.toList)(o:z7b P H t ps=some q):∃r,(Instr.build t vs).run P w=.ok r w/\Rp W.Z H V w q r:=by
 unfold z7b at o;cases k:jrd P t with
 |none=>grind
 |some S=>
  obtain⟨M,a⟩:=S;rw[k]at o;simp only at o;split at o;rotate_left
  {grind};rename_i d;cases B:zke H a M ps with
  |none=>grind
  |some cs=>
   rw[B]at o;cases o;unfold jrd at k;cases hz:(P.info? t).bind (·.zero)with
   |none=>grind
   |some z=>
    rw[hz]at k;simp only at k;obtain⟨Y,D,F⟩:=wdi.1 hz;have c:(zeroValue t).run P w=.ok z w:=by{simp[zeroValue,typeInfo,D,F]};have g:∀h:Wam Wan,M=h.map .u->∀v∈h,v.oneCell'=true:=λh e v T=>by{rw[wdu]at d;exact d (.u v) X};split at k;{rename_i N G;obtain⟨l,Q,A⟩:=wct.1 k;cases A;have C:(N.mapM λf=>(do pure (f.offset,<- sizeOf f.type):Sem (Nat×Nat))).run P w=.ok a.toArray w:=by{refine zf8 ?_ w;rw[Array.mapM_eq_mapM_toList];show(List.toArray <$> _:Sem _).val P=_;rw[<- bind_pure_comp,ve,jcp];have:(λf:Field=>(do pure (f.offset,<- sizeOf f.type):Sem (Nat×Nat)).val P)=λf=>(P.info? f.type).map λi=>(f.offset,i.size):=by{funext f;cases s:P.info? f.type with|none=>{simp[sizeOf,typeInfo,program,ve,zxj,Sem.val,s,stuck]}|some i=>simp[sizeOf,typeInfo,program,ve,zxj,vm,Sem.val,s]};rw[this,Q];rfl};obtain⟨r,n,b,_⟩:=zj9 L (place:=(a.toArray[·]?)) (λi x R=>X) ps vs.toList _ z.cells cs I (RpL.us _) (g _ rfl) B;refine⟨.agg r,?_,.agg _ _ (by simpa using b.1) λi p v y O=>b.2 i p v y X⟩;unfold Instr.build;simp only[Sem.run_bind,c,Result.andThen_ok,run_underlying G,C,n,Sem.run_pure]}
    .rename_i m e G;obtain⟨i,s,A⟩:=wct.1 k;cases A;obtain⟨r,n,b,_⟩:=zj9 L (place:=λj=>some (j*i.size,i.size)) (λj x R=>by
      grind) ps vs.toList _ z.cells cs I (RpL.us _) (g _ rfl) B
     refine⟨.agg r,?_,.agg _ _ (by simpa using b.1) λi p v y O=>b.2 i p v y X⟩;unfold Instr.build;simp[Sem.run_bind,c,run_underlying G,sizeOf,typeInfo,s,n]
    grind
end
section
variable{P:Program}{W:Env}{n:Nat}{H:PHeap}{F:PFrame}
def jsz(H:PHeap):PV->Option PV
 |.pp id d c=>(qd H id c).map λ_=> .pp id d c
 |.rp cs=>some (.rp cs)
 |.fn (.func g) a b=>some (.fn (.func g) a b)
 |_=>none
def jsl(P:Program)(H:PHeap)(F:PFrame)(ty:TypeId)(c:Call):Option PV:=
 match c.callee with
 |.builtin .len=>
  match c.args.toList,c.argTypes.toList with
  |[x],[t]=>lenP P H t (evP F x)
  |_,_=>none
 |.builtin b=>z7f P b c.argTypes ty (c.args.toList.map (evP F))
 |_=>none
def jhc(P:Program)(t:TypeId):Bool:=match P.underlying t with|some (.pointer _)=>true|_=>false
def z1i(H:PHeap):PV->Option Bool
 |.sl _ (_::_)=>some false
 |.u (.slice a _ _)=>some a.isNone
 |.ps id b=>match J6 H id b with
  |some (_,_,n,_)=>if 0<n then some false else none
  |none=>none
 |_=>none
def zrz(H:PHeap):PV->Option Bool
 |.rp _=>some false
 |.u (.pointer a)=>some a.isNone
 |.pp id _ b=>(qd H id b).map λ_=>false
 |_=>none
def jcl{V:Nm->Wan}{w:Wao}(q:HRel P W H V w){p:PV}{b:Bool}{v:Wan}(h:z1i H p=some b)(d:Rp W.Z H V w p v):∃a m c,v=.slice a m c/\a.isNone=b:=by
 unfold z1i at h;split at h;{cases h;cases d;simp};{cases h;cases d;simp}
 .split at h
  .rename_i t k m cs n;split at h
   .rename_i x;cases h;obtain⟨l,r⟩:=Jw n;cases d with
    |ps _ _ _ s u=>
     obtain⟨f,o,_⟩:=q.row _ t k m cs l;rcases o.2 with⟨e,rfl⟩|⟨g,i,j,e,_⟩
     {omega};grind
   grind
  grind
 grind
def jbb{V:Nm->Wan}{w:Wao}(i:HRel P W H V w){p:PV}{b:Bool}{v:Wan}(h:zrz H p=some b)(c:Rp W.Z H V w p v):∃a,v=.pointer a/\a.isNone=b:=by unfold zrz at h;split at h;{cases h;cases c;simp};{cases h;cases c;simp};{obtain⟨cs,d,rfl⟩:=wct.1 h;obtain⟨e,f⟩:=J2 d;cases c with|pp _ _ _ _ j g=>grind};grind
def z0e(op:BinOp)(o:Option Bool):Option PV:=match o,op with
 |some b,.eql=>some (.u (.bool b))
 |some b,.neq=>some (.u (.bool (!b)))
 |_,_=>none
def jkn(P:Program)(H:PHeap)(F:PFrame)(op:BinOp)(t:TypeId)(x y:Operand):Option PV:=
 match y with
 |.const (.slice none 0 0)=>if zcu P t then z0e op (z1i H (evP F x))else none
 |.const (.pointer none)=>if jhc P t then z0e op (zrz H (evP F x))else none
 |y=>J5 P op t x y (evP F x) (evP F y)
def Yp(P:Program)(H:PHeap)(F:PFrame)(o:Oper):Option PV:=
 match o.op with
 |.move x|.assign x=>some (evP F x)
 |.pick c a b=>match evP F c with
  |.u (.bool t)=>some (if t then evP F a else evP F b)
  |_=>none
 |.binOp g t x y _=>jkn P H F g t x y
 |.unOp g _ x=>unP P g (evP F x)
 |.convert s d x=>jh1 P s d (evP F x)
 |.load t x=>zco P H t (evP F x)
 |.fieldAddr s x f=>fieldAddrP P H s f (evP F x)
 |.indexAddr t x i=>indexAddrP P H t (evP F x) (evP F i)
 |.index t x i=>zof P t (evP F x) (evP F i)
 |.field t x f=>z6n P t f (evP F x)
 |.slice t x j h none=>zs5 P t (evP F x) (j.map (evP F)) (h.map (evP F))
 |.extract x i=>match evP F x with
  |.tup cs=>cs[i]?
  |_=>none
 |.build t e=>z7b P H t (e.toList.map λx=>(x.1,evP F x.2))
 |.makeFunc f a b=>some (.fn f (a.toList.map (evP F)) (b.toList.map (evP F)))
 |.nilCheck x=>jsz H (evP F x)
 |.call c=>jsl P H F o.type c
 |_=>none
def z47{V:Nm->Wan}{w:Wao}:∀{ps:Wam PV}{vs us:Wam Wan},ps.mapM PV.val2=some us->RpL W.Z H V w ps vs->vs=us
 |[],vs,us,h,c=>by have:=c.1;grind
 |p::ps,[],us,h,c=>by have:=c.1;grind
 |p::ps,v::vs,us,h,c=>by simp[ Option.bind_eq_bind]at h;cases d:p.val2 with|none=>{grind}|some u=>cases e:ps.mapM PV.val2 with|none=>{grind}|some m=>rw[d,e]at h;simp at h;subst h;have f:vs=m:=z47 e ⟨by have:=c.1;grind,λi a b g j=>c.2 (i+1) a b X X⟩;rw[(c.2 0 p v rfl rfl).val2 d,f]
def RpL.eval{V:Nm->Wan}{w:Wao}{a:Act}:∀(xs:Wam War),(∀x∈xs,Rp W.Z H V w (evP F x) (a.eval x))->RpL W.Z H V w (xs.map (evP F)) (xs.map a.eval):=λxs h=>⟨Waf,λi p v b c=>by
 grind⟩
def jdk{o:Oper}{c:Call}{p:PV}(z:o.op=.call c)(h:jsl P H F o.type c=some p):PQ P W o F H p:=by refine waf λV a w G A=>?_;rw[z]at A;obtain⟨i,e,d⟩:=c;unfold jsl at h;cases i with|value f=>{grind}|invoke r m=>{simp at h}|builtin b=>have g:∀x∈e.toList,Rp W.Z H V w (evP F x) (a.eval x):=λx s=>A x (by simp[Op.operands,Call.operands];simpa using s);have k:(execOp a.eval o)=builtin b d o.type (e.map λ|.const _=>true|_=>false) (e.map a.eval):=by{unfold execOp;simp[z];rfl};by_cases n:b=.len;{subst n;simp only at h;split at h;{rename_i x t M N;have B:e = #[x]:=X;have C:d = #[t]:=X;subst B C;obtain⟨u,I,D⟩:=jsb (ty:=o.type) G (g x Waf) h;exact⟨u,by rw[k];simp[builtin,I],D⟩};grind};.have l:z7f P b d o.type (e.toList.map (evP F))=some p:=by{grind};unfold z7f at l;cases y:(e.toList.map (evP F)).mapM PV.val2 with|none=>{grind}|some us=>rw[y]at l;simp only at l;have L:=z47 y (RpL.eval e.toList g);have j:e.map a.eval=us.toArray:=X;split at l;{obtain⟨v,q,rfl⟩:=wct.1 l;exact⟨v,by rw[k];simp[builtin,j,zf8 q w],Rp.ofV _ _ _ _ _⟩};{obtain⟨v,q,rfl⟩:=wct.1 l;exact⟨v,by rw[k];simp[builtin,j,zf8 q w],Rp.ofV _ _ _ _ _⟩};grind
def qm{o:Oper}{p:PV}(h:Yp P H F o=some p):PQ P W o F H p:=by
 obtain⟨b7,op,b3,c0,R,T⟩:=o;cases op<;>simp only[Yp]at h;case move x=>
  cases h;exact waf λV a w r j=>⟨_,rfl,j x (by simp[Op.operands])⟩
 case assign x=>
  cases h;exact waf λV a w r j=>⟨_,rfl,j x (by simp[Op.operands])⟩
 case pick c a b=>
  split at h
  ·rename_i t I;cases h;refine waf λV k w r j=>?_;have O:=j c (by simp[Op.operands]);rw[I]at O;have a0:k.eval c=.bool t:=by generalize k.eval c=q at O;cases O;rfl
   refine⟨if t then k.eval a else k.eval b,by simp[execOp,a0,asBool],?_⟩;cases t
   ·exact j b (by simp[Op.operands])
   ·exact j a (by simp[Op.operands])
  ·cases h
 case binOp op t x y yt=>
  unfold jkn at h;split at h
  ·split at h
   ·rename_i I;unfold z0e at h;unfold zcu at I;split at I
    ·rename_i e B;have G:∀b,z1i H (evP F x)=some b->∀V(k:Act)(w:Wao),HRel P W H V w->Rp W.Z H V w (evP F x) (k.eval x)->(Op.equal t (k.eval x) (.slice none 0 0)).run P w=.ok b w/\∃a m c,k.eval x=.slice a m c:=by
      intro b A V k w r j;obtain⟨a,m,c,S,rfl⟩:=jcl r A j;rw[S];refine⟨?_,a,m,c,rfl⟩;have Y:∀d,(Op.equalIn (d+1) t (.slice a m c) (.slice none 0 0)).run P w=.ok a.isNone w:=λd=>by
       cases a<;>simp[Op.equalIn,run_underlying B]
      exact Y 9999
     split at h
     ·rename_i b A;cases h;refine waf λV k w r j=>?_;obtain⟨n,a,m,c,z⟩:=G b A V k w r (j x (by simp[Op.operands]));rw[z]at n;have M:∀u,k.eval (.const u)=u:=λ_=>rfl;exact⟨.bool b,by simp[execOp,z,M,eqGuard,binOp,n],.u _⟩
     ·rename_i b A;cases h;refine waf λV k w r j=>?_;obtain⟨n,a,m,c,z⟩:=G b A V k w r (j x (by simp[Op.operands]));rw[z]at n;have M:∀u,k.eval (.const u)=u:=λ_=>rfl;exact⟨.bool (!b),by simp[execOp,z,M,eqGuard,binOp,n],.u _⟩
     grind
    ·cases I
   ·cases h
  ·split at h
   ·rename_i I;unfold z0e at h;unfold jhc at I;split at I
    ·rename_i e B;have G:∀(b:Bool),zrz H (evP F x)=some b->∀(V:Nm->Wan)(k:Act)(w:Wao),HRel P W H V w->Rp W.Z H V w (evP F x) (k.eval x)->(Op.equal t (k.eval x) (.pointer none)).run P w=.ok b w/\∃a,k.eval x=.pointer a:=by
      intro b A V k w r j;obtain⟨a,S,rfl⟩:=jbb r A j;rw[S];refine⟨?_,a,rfl⟩;have Y:∀d,(Op.equalIn (d+1) t (.pointer a) (.pointer none)).run P w=.ok a.isNone w:=λd=>by
       cases a<;>simp[Op.equalIn,run_underlying B]
      exact Y 9999
     split at h
     ·rename_i b A;cases h;refine waf λV k w r j=>?_;obtain⟨n,a,z⟩:=G b A V k w r (j x (by simp[Op.operands]));rw[z]at n;have M:∀u,k.eval (.const u)=u:=λ_=>rfl;exact⟨.bool b,by simp[execOp,z,M,eqGuard,binOp,n],.u _⟩
     ·rename_i b A;cases h;refine waf λV k w r j=>?_;obtain⟨n,a,z⟩:=G b A V k w r (j x (by simp[Op.operands]));rw[z]at n;have M:∀u,k.eval (.const u)=u:=λ_=>rfl;exact⟨.bool (!b),by simp[execOp,z,M,eqGuard,binOp,n],.u _⟩
     grind
    ·cases I
   ·cases h
  unfold J5 at h;split at h
  ·rename_i a b L A;obtain⟨v,C,rfl⟩:=wct.1 h;refine waf λV k w r j=>⟨v,?_,Rp.ofV _ _ _ _ _⟩
   have n:=(j x (by simp[Op.operands])).val2 L;have z:=(j y (by simp[Op.operands])).val2 A;have N:=zf8 C w;simp only[execOp,n,z];rw[Sem.run_bind,N];rfl
  ·cases h
 case unOp op t x=>
  unfold unP at h;split at h
  ·rename_i a L;obtain⟨v,C,rfl⟩:=wct.1 h;refine waf λV k w r j=>⟨v,?_,Rp.ofV _ _ _ _ _⟩
   have n:=(j x (by simp[Op.operands])).val2 L;simp only[execOp,n];rw[Sem.run_bind,zf8 C w];rfl
  ·cases h
 case convert s d x=>
  unfold jh1 at h;split at h
  ·rename_i a L;obtain⟨v,C,rfl⟩:=wct.1 h;refine waf λV k w r j=>⟨v,?_,Rp.ofV _ _ _ _ _⟩
   have n:=(j x (by simp[Op.operands])).val2 L;simp only[execOp,n];rw[Sem.run_bind,zf8 C w];rfl
  ·cases h
 case load t x=>
  refine waf λV k w r j=>?_;obtain⟨u,B,D⟩:=zuo r (j x (by simp[Op.operands])) h;exact⟨u,by simp[execOp,B],D⟩
 case fieldAddr s x f=>
  refine waf λV k w r j=>?_;obtain⟨u,B,D⟩:=zzy (j x (by simp[Op.operands])) h;exact⟨u,by simp[execOp,B],D⟩
 case indexAddr t x i=>
  refine waf λV k w r j=>?_;obtain⟨u,B,D⟩:=zyt r (j x (by simp[Op.operands])) (j i (by simp[Op.operands])) h;exact⟨u,by simp[execOp,B],D⟩
 case index t x i=>
  refine waf λV k w r j=>?_;obtain⟨u,B,D⟩:=jd4 (j x (by simp[Op.operands])) (j i (by simp[Op.operands])) h;exact⟨u,by simp[execOp,B],D⟩
 case field t x f=>
  refine waf λV k w r j=>?_;obtain⟨u,B,D⟩:=jf4 (j x (by simp[Op.operands])) h;exact⟨u,by simp[execOp,B],D⟩
 case slice t x lo Q mx=>
  cases mx with
  |some m=>simp at h
  |none=>
   refine waf λV k w r j=>?_;obtain⟨u,B,D⟩:=jgo (vl:=lo.map k.eval) (vh:=Q.map k.eval) (j x (by simp[Op.operands])) (λp v n z=>by
    cases lo with
    |none=>grind
    |some l=>cases n;cases z;exact j l (by simp[Op.operands])) Waf (λp v n z=>by
    cases Q with
    |none=>grind
    |some l=>cases n;cases z;exact j l (by simp[Op.operands])) Waf h
   exact⟨u,by simp[execOp,B],D⟩
 case extract x i=>
  split at h
  ·rename_i cs J;refine waf λV k w r j=>?_;have n:=j x (by simp[Op.operands]);rw[J]at n;generalize hq:k.eval x=q at n;cases n with
   |tup _ vs hl O=>
    have b9:=(wcl.1 h).1;have C:=wdf (show i<vs.size by omega);exact⟨vs[i]'U,by simp[execOp,hq,Instr.extract,C],O i p _ h C⟩
  ·cases h
 case build t parts=>
  refine waf λV k w r j=>?_;obtain⟨u,B,D⟩:=jgn (vs:=parts.map λ(x:Nat×War)=>(x.1,k.eval x.2)) r ⟨Waf,λi p v n z=>by
   rw[wcv]at n;rw[Array.toList_map,wcv]at z;cases Q:parts.toList[i]? with
   |none=>grind
   |some y=>
    rw[Q]at n z;cases n;cases z;refine⟨rfl,j y.2 ?_⟩;simp only[Op.operands,List.mem_toArray,wc6]
    grind⟩ h
  exact⟨u,by simp[execOp,B],D⟩
 case makeFunc f a b=>
  cases h;refine waf λV k w r j=>⟨.func f (a.map k.eval) (b.map k.eval),Wab,?_⟩
  have n:=RpL.eval a.toList λx a7=>j x (by simp[Op.operands];grind);have z:=RpL.eval b.toList λx a7=>j x (by simp[Op.operands];grind);exact .fn f _ _ _ _ Waf Waf (λi p v N h4=>n.2 i p v N X) (λi p v N h4=>z.2 i p v N X)
 case nilCheck x=>
  refine waf λV k w r j=>?_;have n:=j x (by simp[Op.operands]);generalize hq:evP F x=q at h n;unfold jsz at h;split at h
  ·rename_i id a8 b0;cases hl:qd H id b0 with
   |none=>grind
   |some cs=>
    rw[hl]at h;cases h;obtain⟨a1,a2⟩:=J2 hl;generalize C:k.eval x=v at n;cases n with
    |pp _ _ _ _ a6 hh=>
     obtain⟨g,hg,rfl⟩:=hh a1 a2;exact⟨.pointer (some ⟨g,zbd (V id)+a8,none⟩),by simp[execOp,C],.pp _ _ _ _ a6 hh⟩
  ·cases h;generalize C:k.eval x=v at n;cases n with
   |rp _ b o g hz A n z=>exact⟨.pointer (some ⟨b,o,none⟩),by simp[execOp,C],.rp _ b o g hz A n z⟩
  ·cases h;generalize C:k.eval x=v at n;cases n with
   |fn _ _ _ va vb a4 a5 L A=>exact⟨.func _ va vb,by simp[execOp,C],.fn _ _ _ va vb a4 a5 L A⟩
  grind
 case call c=>exact jdk rfl h
 all_goals cases h
structure Turn(W:Env)(H:PHeap)(V:Nm->Value)(w:World)(d:Nm)(b':zm8)(v0:Value)(w':World):Prop where
 below:Below W.w.heap.size W.w w'
 size:w.heap.size<=w'.heap.size
 block:∀b,b<w.heap.size->¬((H d).body.isSome=true/\qc (V d)=some b)->w'.heap[b]?=w.heap[b]?
 own:∀g,qc v0=some g->w.heap.size<=g\/((H d).body.isSome=true/\qc (V d)=some g)
 ver:(H d).ver<b'.ver\/(b'.ver=(H d).ver/\v0=V d/\(H d).body.isSome=true)
def zo(V:Nm->Value)(d:Nm)(v:Value):Nm->Value:=λi=>if i=d then v else V i
section
variable{V:Nm → Value}{w w' : World}{d:Nm}{b' : zm8}{v0:Value}
def Turn.rp(i:Turn W H V w d b' v0 w'){p:PV}{v:Wan}(h:Rp W.Z H V w p v):Rp W.Z (H.set d b') (zo V d v0) w' p v:=by
 refine h.mono (λb hz j=>⟨λc=>?_,wep j i.size,i.block b j λk=>hz (.inr ⟨d,k.1,k.2⟩)⟩) (wcs _) (λid=>?_) (λid m n f a=>?_)
 .rcases c with c|⟨id,f,a⟩
  {exact hz (.inl c)};.by_cases e:id=d;{subst e;simp[zo,if_true]at a;rcases i.own b a with g|g;{omega};.exact hz (.inr ⟨_,g.1,g.2⟩)};.simp[zo,if_neg e]at a;simp[PHeap.set,if_neg e]at f;exact hz (.inr ⟨id,f,a⟩)
 {by_cases e:id=d;{subst e;simp[PHeap.set,if_true];rcases i.ver with h|⟨h,_⟩<;>omega};.simp[PHeap.set,e]}
 .by_cases e:id=d
  .subst e;simp[PHeap.set,if_true]at f a;rcases i.ver with h|⟨h,g,l⟩
   {omega};.exact⟨l,U,by simp[zo,g]⟩
  .simp[PHeap.set,if_neg e]at f a;exact⟨f,a,by simp[zo,e]⟩
def BodyRel(W:Env)(H:PHeap)(V:Nm->Value)(w:World)(v:Value):PBody->Prop
 |.row t k n cs=>∃a,w.ownsRow W.w.heap.size t k v n a/\RpL W.Z H V w cs a/\∀v∈a,v.oneCell'=true
 |.box t cs=>∃g arr,v=.pointer (some ⟨g,0,none⟩)/\W.w.heap.size<=g/\w.heap[g]?=some (.cells arr t (0,0))/\RpL W.Z H V w cs arr.toList/\∀v∈arr.toList,v.oneCell'=true
 |.raw p cs φ=>∃g o b,v=jv9 p g/\W.w.heap.size<=g/\w.heap[g]?=some o/\φ g o b/\RpL W.Z H V w cs b
 |.que t k n cs=>∃b,(PBody.que t k n cs).Is w W.w.heap.size v b/\RpL W.Z H V w cs b
def BodyRel.body{W:Env}{H:Wau}{V:Nm->Wan}{w:Wao}{v:Wan}{bd:PBody}(h:BodyRel W H V w v bd):∃a,bd.Is w W.w.heap.size v a/\RpL W.Z H V w bd.cs a:=by cases bd with|row t k n cs=>{obtain⟨a,b,c,d⟩:=h;exact⟨a,⟨b,d⟩,c⟩}|box t cs=>{obtain⟨g,arr,b,c,d,e,f⟩:=h;exact⟨arr.toList,⟨g,b,c,d,f⟩,e⟩}|raw p cs φ=>{obtain⟨g,o,a,b,c,d,e,f⟩:=h;exact⟨a,⟨g,o,b,c,d,e⟩,f⟩}|que t k n cs=>exact h
def Turn.heap(k:Turn W H V w d b' v0 w')(a:HRel P W H V w)(x:∀q,b'.body=some q->BodyRel W (H.set d b') (zo V d v0) w' v0 q):HRel P W (H.set d b') (zo V d v0) w':=by have keep:∀id g,id≠d->(H id).body.isSome=true->qc (V id)=some g->w'.heap[g]?=w.heap[g]?:=λid g e o s=>by{refine k.block g (a.own_lt o s).2 λu=>e (a.apart id d g o u.1 s u.2)};refine⟨k.below,λid q f=>?_,λi=>k.rp (a.ghost i),λid l g h c j r=>?_,λb hz=>wep (a.zlt b hz) k.size,λid g h c hz=>?_⟩;{by_cases e:id=d;{subst e;simp[PHeap.set,if_true]at f;have:=(x _ f).body;simp[zo,if_true];omega};.simp[PHeap.set,if_neg e]at f;obtain⟨A,h,c⟩:=a.body id q f;simp[zo,if_neg e];exact⟨A,h.keep λb z=>keep id b e X z,c.mono λp v y=>k.rp y⟩};{have own:∀g,qc v0=some g->∀id,id≠d->(H id).body.isSome=true->qc (V id)=some g->False:=λg s id e o n=>by{rcases k.own g s with t|t;{have:=(a.own_lt o n).2;omega};.exact e (a.apart id d g o t.1 n t.2)};by_cases e:id=d;{by_cases m:l=d;{grind};.subst e;simp[zo,if_true]at j;simp[zo,if_neg m]at r;simp[PHeap.set,if_neg m]at c;grind};.by_cases m:l=d;{subst m;simp[zo,if_true]at r;simp[zo,if_neg e]at j;simp[PHeap.set,if_neg e]at h;grind};.simp[zo,if_neg e]at j;simp[zo,if_neg m]at r;simp[PHeap.set,if_neg e]at h;simp[PHeap.set,if_neg m]at c;exact a.apart id l g h c j r};.by_cases e:id=d;{subst e;simp[zo,if_true]at c;rcases k.own g c with j|j;{have:=a.zlt g hz;omega};.exact a.nz _ g j.1 j.2 hz};.simp[zo,if_neg e]at c;simp[PHeap.set,if_neg e]at h;exact a.nz id g h c hz
end
end
def V0:Nm->Value:=λ_=>undef
inductive NoP:PV->Prop
 |u (v:Value):NoP (.u v)
 |agg (cs:List PV) (h:∀c∈cs,NoP c):NoP (.agg cs)
 |tup (cs:List PV) (h:∀c∈cs,NoP c):NoP (.tup cs)
 |sl (k:Nat) (xs:List PV) (h:∀c∈xs,NoP c):NoP (.sl k xs)
 |fr (t:TypeId) (k:Nat) (xs:List PV) (h:∀c∈xs,NoP c):NoP (.fr t k xs)
 |rp (cs:List PV) (h:∀c∈cs,NoP c):NoP (.rp cs)
 |fn (f:Fn) (a b:List PV) (ha:∀c∈a,NoP c) (hb:∀c∈b,NoP c):NoP (.fn f a b)
def NoP.cell{p c:PV}(h:NoP p)(d:c∈p.cells):NoP c:=by cases h with|agg cs h=>{exact h c d}|u v=>{simp[PV.cells]at d;subst d;exact .u v}|tup cs h=>{simp[PV.cells]at d;subst d;exact .tup cs h}|sl k e h=>{simp[PV.cells]at d;subst d;exact .sl k e h}|fr t k e h=>{simp[PV.cells]at d;subst d;exact .fr t k e h}|rp cs h=>{simp[PV.cells]at d;subst d;exact .rp cs h}|fn f a b g i=>simp[PV.cells]at d;subst d;exact .fn f a b g i
def Rp.noP{Z C:ZM}{H R:Wau}{V V':Nm->Wan}{w:Wao}{p:PV}{v:Wan}(h:Rp Z H V w p v)(l:NoP p)(hz:∀b,b<w.heap.size->¬PZ Z H V b->¬PZ C R V' b)(hm:C.m<=Z.m:=by exact wcs _):Rp C R V' w p v:=by
 induction h with
 |u v=>exact .u v
 |unk v=>cases l
 |agg cs P D h r=>cases l with|agg _ q=>exact .agg cs P D λi p v d j=>r i p v d j (q p (wcq d))
 |tup cs P D h r=>cases l with|tup _ q=>exact .tup cs P D λi p v d j=>r i p v d j (q p (wcq d))
 |nil k a c=>exact .nil k a c
 |sl k Q b o c g I z e n d j r=>
  cases l with
  |sl _ _ q=>exact .sl k Q b o c g I z (hz b n e) n d λi p s=>r i p s (by
    obtain⟨y,L,x⟩:=wdm.1 (wcq s);exact(q y L).cell x)
 |fr t k Q v A I S e d j r=>
  cases l with
  |fr _ _ _ q=>exact .fr t k Q v A I (Q5 S hm λ_ _ _=>rfl) (λb n=>hz b (Zu S n).2 (e b n)) d λi p u s J=>r i p u s J (by
    obtain⟨y,L,x⟩:=wdm.1 (wcq s);exact(q y L).cell x)
 |rp cs b o g e n d j r=>cases l with|rp _ q=>exact .rp cs b o g (hz b n e) n d λi p s=>r i p s (q p (wcq s))
 |ps id B v T h=>cases l
 |qs id O k B v T h=>cases l
 |pp id O B v T h=>cases l
 |fn f a b va vb F G ha n M N=>cases l with|fn _ _ _ Y cb=>exact .fn f a b va vb F G (λi p v d j=>M i p v d j (Y p (wcq d))) (λi p v d j=>N i p v d j (cb p (wcq d)))
inductive Sc:PV->Prop
 |u (v:Value):Sc (.u v)
 |agg (cs:List PV) (h:∀c∈cs,Sc c):Sc (.agg cs)
 |tup (cs:List PV) (h:∀c∈cs,Sc c):Sc (.tup cs)
def Rp.sc{Z n:ZM}{H m:Wau}{V V':Nm->Wan}{w w':Wao}{p:PV}{v:Wan}(h:Rp Z H V w p v)(d:Sc p):Rp n m V' w' p v:=by induction h with|u v=>{exact .u v}|agg cs l g h j=>{cases d with|agg _ f=>exact .agg cs l g λi p v b e=>j i p v b e (f p (wcq b))}|tup cs l g h j=>{cases d with|tup _ f=>exact .tup cs l g λi p v b e=>j i p v b e (f p (wcq b))}|nil k a c=>{cases d}|_=>cases d
def View(H:PHeap)(p q:PV):Prop:=∀(P:Program)(W:Env)(V:Nm->Value)(w:World),HRel P W H V w->∀v,Rp W.Z H V w p v->Rp W.Z PHeap.empty V0 w q v
def J9{Z:ZM}{b:Nat}:PZ Z PHeap.empty V0 b↔Z b:=by constructor;{rintro(h|⟨id,h,_⟩);{omega};.simp[PHeap.empty]at h};.exact .inl
def HRel.empty{P:Waq}{W:Env}{w:Wao}(a:Below W.w.heap.size W.w w)(c:∀i,Rp W.Z PHeap.empty V0 w (W.G i) (W.gv i))(hz:∀b,W.Z b->b<w.heap.size):HRel P W PHeap.empty V0 w:=
 ⟨a,λid e h=>by trivial,c,λid d g h=>by trivial,hz,λid b h=>by trivial⟩
def View.noP{H:Wau}{p:PV}(h:NoP p):View H p p:=λP W V w d v c=>c.noP h λb _ hz a=>hz (.inl (J9.1 a))
def View.agg{H:Wau}{cs ds:Wam PV}(k:cs.length=ds.length)(h:∀(i:Nat)p q,cs[i]?=some p->ds[i]?=some q->View H p q):View H (.agg cs) (.agg ds):=λP W V w g v j=>by cases j with|agg _ m e d=>refine .agg _ _ U λi q v a c=>?_;have f:=(wcl.1 a).1;have b:=wch (l:=cs) (i:=i) U;exact h i _ _ b a P W V w g v (d i _ v b c)
def View.tup{H:Wau}{cs ds:Wam PV}(k:cs.length=ds.length)(h:∀(i:Nat)p q,cs[i]?=some p->ds[i]?=some q->View H p q):View H (.tup cs) (.tup ds):=λP W V w g v j=>by cases j with|tup _ m e d=>refine .tup _ _ U λi q v a c=>?_;have f:=(wcl.1 a).1;have b:=wch (l:=cs) (i:=i) U;exact h i _ _ b a P W V w g v (d i _ v b c)
def wa4{P:Waq}{W:Env}{H:Wau}{V:Nm->Wan}{w:Wao}(c:HRel P W H V w){id:Nm}{b:Nat}(d:(H id).body.isSome=true)(a:qc (V id)=some b):¬W.Z b:=c.nz id b d a
def View.row{H:Wau}{id:Nm}{ver:Nat}{t:Wap}{k n:Nat}{cs:Wam PV}(L:J6 H id ver=some (t,k,n,cs))(xs:Wam PV)(Y:xs.length=n)(O:∀y∈xs,y.cells.length=k)
  (h:∀(i:Nat)p q,cs[i]?=some p->(xs.flatMap PV.cells)[i]?=some q->View H p q):View H (.ps id ver) (.sl k xs):=λP W V w x v Q=>by
 obtain⟨G,A⟩:=Jw L;cases Q with
 |ps _ _ _ R I=>
  have e:=I X A;subst e;obtain⟨a,s,B,_⟩:=x.row id t k n cs G;have D:=s.1;have o:(xs.flatMap PV.cells).length=n*k:=by
   have:∀(c:Wam PV),(∀y∈c,y.cells.length=k)->(c.flatMap PV.cells).length=c.length*k:=by
    intro c;induction c with
    |nil=>simp
    |cons y c J=>grind
   grind
  rcases s.2 with⟨e,N⟩|⟨g,l,F,e,T,r,C,_,_,z⟩
  ·have S:xs=[]:=wdp U;rw[e,S];exact .nil _ _ _
  ·have d:qc (V id)=some g:=by rw[e];rfl
   have hz:¬PZ W.Z PHeap.empty V0 g:=λhz=>wa4 x X d (J9.1 hz);have m:∀i q,(xs.flatMap PV.cells)[i]?=some q->∃u,a[i]?=some u/\w.cell? ⟨g,0+i,none⟩=some u/\Rp W.Z PHeap.empty V0 w q u:=λi q j=>by
    have M:=(wcl.1 j).1;have b:i<a.length:=U;have f:i<cs.length:=by rw[B.1];omega
    refine⟨a[i],wch b,?_,h i _ q (wch f) j P W V w x _ (B.2 i _ _ (wch f) (wch b))⟩;have:=s.cells (by rw[e];rfl) i _ (wch b);rwa [Jr]at this
   have:=Rp.sl k xs g 0 l (λi=>(a[i]?).getD undef) O U hz (wde.1 r).1 (λi q j=>by
    grind) (λi q j=>by
    grind)
   grind
def View.pp{H:Wau}{id:Nm}{off ver:Nat}{cs ds:Wam PV}(j:qd H id ver=some cs)(x:cs.length=off+ds.length)(h:∀i p q,cs[off+i]?=some p->ds[i]?=some q->View H p q):View H (.pp id off ver) (.rp ds):=λP W V w b v s=>by obtain⟨c,k⟩:=J2 j;cases s with|pp _ _ _ _ t n=>obtain⟨g,e,rfl⟩:=n c k;obtain⟨_,_,m⟩:=jdd b j e;have d:∀i q,ds[i]?=some q->∃u,w.cell? ⟨g,zbd (V id)+off+i,none⟩=some u/\Rp W.Z PHeap.empty V0 w q u:=λi q a=>by{have o:=(wcl.1 a).1;have f:=wch (l:=cs) (i:=off+i) U;obtain⟨u,y,r⟩:=m _ _ f;exact⟨u,X,h i _ q f a P W V w b u r⟩};refine .rp ds g (zbd (V id)+off) (λi=>(w.cell? ⟨g,zbd (V id)+off+i,none⟩).getD undef) (λhz=>wa4 b c e (J9.1 hz)) (b.own_lt c e).2 (λi q a=>?_) (λi q a=>?_);{grind};grind
def ViewL(H:PHeap)(ps qs:List PV):Prop:=ps.length=qs.length/\∀(i:Nat)(p q:PV),ps[i]?=some p->qs[i]?=some q->View H p q
def ViewL.nil(H:Wau):ViewL H [] []:=⟨rfl,λi p q h=>V⟩
def ViewL.cons{H:Wau}{p q:PV}{ps qs:Wam PV}(h:View H p q)(c:ViewL H ps qs):ViewL H (p::ps) (q::qs):=⟨by simp[c.1],λi a b d e=>by
 cases i with
 |zero=>grind
 |succ i=>exact c.2 i a b X X⟩
def PCall(P:Program)(f:FuncId)(a:List PV)(R:PV->Prop):Prop:=
 ∀(Z:ZM)(w:World)(c:List Value),GW w->(∀b,Z b->b<w.heap.size)->Z.m<=w.heap.size->RpL Z PHeap.empty V0 w a c ->
  Calls P f c.toArray w (λe d=>∃v p,e=.returned v/\R p/\NoP p/\Rp Z PHeap.empty V0 d p v/\Below w.heap.size w d)
def jbe(P:Program)(f:FuncId)(a:List PV)(t:TypeId)(k:Nat)(R:Nat->List Value->Prop):Prop:=
 ∀(w:World)(b:List Value),RpL ⟨λ_=>False,0⟩ PHeap.empty V0 w a b ->
  Calls P f b.toArray w (λe c=>∃v n us,e=.returned v/\R n us/\c.ownsRow w.heap.size t k v n us/\(∀u∈us,u.oneCell'=true)/\Below w.heap.size w c)
section
variable{P:Program}{W:Env}{n:Nat}{H:PHeap}{F:PFrame}
def PE(P:Program)(W:Env)(n:Nat)(o:Oper)(F:PFrame)(H:PHeap)(k:PV->PHeap->Prop):Prop:=
 ∀(V:Nm->Value)(a:Act)(w:World),Rel P W n F H V a w->o.wp P a w (λd e=>∃p b c,k p b/\Rel P W n (F.put o.dst p) b c d e) (λ_ _ _=>False)
def waw{o:Oper}{p:PV}{k:PV->Wau->Prop}(d:Zc n o)(h:PQ P W o F H p)(f:k p H):PE P W n o F H k:=λV a w b=>by have:=h V a w b.heap λt _=>b.slot t;exact Oper.wp_mono (λi j⟨v,e,g,c⟩=>⟨p,H,V,f,by rw[e];exact b.put c o.dst d g⟩) this
def zjb{o:Oper}{a:Act}{w:Wao}{f:Wat}{args:Array Wan}{K:Act->Wao->Prop}{Q:Exit->Act->Wao->Prop}(d:(execOp a.eval o).run P w=.ok (.enter f args) w)(c:Calls P f args w (λe b=>∃v,e=.returned v/\K (a.put o.dst v) b)):o.wp P a w K Q:=by unfold Oper.wp;rw[d];exact c.mono λe b⟨v,g,h⟩=>X
def zc0(F:PFrame)(c:Call):Option (FuncId×List PV):=
 match c.callee with
 |.value x=>
  match evP F x with
  |.fn (.func f) a b=>some (f,a++c.args.toList.map (evP F)++b)
  |_=>none
 |_=>none
def Qi(P:Program)(f:FuncId):Bool:=match P.funcs[f]? with
 | some fn => fn.body.isSome && !(fn.name == "runtime.NumGoroutine")
 |none=>false
def zbq{V:Nm->Wan}{a:Act}{w:Wao}{o:Oper}{c:Call}(B:o.op=.call c){f:Wat}{n:Wam PV}(s:zc0 F c=some (f,n))(q:Qi P f=true)(A:∀x∈o.op.operands,Rp W.Z H V w (evP F x) (a.eval x)):
  ∃D,(execOp a.eval o).run P w=.ok (.enter f D.toArray) w/\RpL W.Z H V w n D:=by
 obtain⟨d,h,k⟩:=c;rw[B]at A;unfold zc0 at s;cases d with
 |builtin b=>grind
 |invoke r m=>grind
 |value x=>
  simp only at s;split at s
  ·rename_i g I cb M;cases s;have e:=A x (by simp[Op.operands,Call.operands]);have t:=RpL.eval h.toList λy S=>A y (by simp[Op.operands,Call.operands];grind);rw[M]at e;generalize R:a.eval x=v at e;cases e with
   |fn _ _ _ C vb O Q L u=>
    refine⟨C.toList++h.toList.map a.eval++vb.toList,?_,?_⟩
    ·unfold Qi at q;split at q
     ·rename_i fn z;simp only[wco,wd6]at q;have u:fn.body.isNone=false:=by simp_all
      simp only[execOp,B,resolve,R,Deferred.ofValue,Sem.run_bind,Sem.run_pure,Result.andThen_ok,invoke,callFunc,run_program,z,q.2,u];simp
     grind
    ·have T:RpL W.Z H V w I C.toList:=⟨U,λi p v j l=>L i p v j X⟩
     have Y:RpL W.Z H V w cb vb.toList:=⟨U,λi p v j l=>u i p v j X⟩
     have G:∀{a b:Wam PV}{x y:Wam Wan},RpL W.Z H V w a x->RpL W.Z H V w b y->RpL W.Z H V w (a++b) (x++y):=λ{a b x y}e t=>⟨by simp[e.1,t.1],λi p v j l=>by
      by_cases N:i<a.length
      ·rw[wcx N]at j;rw[wcx (by rw[<- e.1];omega)]at l;exact e.2 i p v j l
      ·rw[wcz U]at j;rw[wcz (by rw[<- e.1];omega),<- e.1]at l;exact t.2 _ p v j l⟩
     grind
  grind
def RpL.view{V:Nm->Wan}{w:Wao}(f:HRel P W H V w){ps qs:Wam PV}{vs:Wam Wan}(h:RpL W.Z H V w ps vs)(a:ViewL H ps qs):RpL W.Z PHeap.empty V0 w qs vs:=⟨by rw[<- a.1];exact h.1,λi q v b d=>by
 have e:=(wcl.1 b).1;have c:=wch (l:=ps) (i:=i) (by have:=a.1;omega);exact a.2 i _ q c b P W V w f v (h.2 i _ v c d)⟩
def wa2{V:Nm->Wan}{w:Wao}(a:HRel P W H V w):∀b,W.Z b->b<w.heap.size:=a.zlt
def wa8{V:Nm->Wan}{w:Wao}(a:HRel P W H V w):W.Z.m<=w.heap.size:=wdt W.hm a.below.size
def wca{o:Oper}{c:Call}{i:PV}{b qs:Wam PV}{f:Wat}(u:o.op=.call c)(g:zc0 F c=some (f,b))(s:Qi P f=true)(z:ViewL H b qs)(q:PCall P f qs (· = i))(y:Sc i):PQ P W o F H i:=λV a w d A=>by obtain⟨B,r,m⟩:=zbq u g s λx h=>Rp.eval (P:=P) x λt g=>A t (by rw[<- g];exact h);exact zjb r ((q W.Z w B d.gw (wa2 d) (wa8 d) (m.view d z)).mono λe C⟨v,p,j,k,_,l,n⟩=>⟨v,j,v,rfl,by subst k;exact l.sc y,n⟩)
def wb9{o:Oper}{c:Call}{A:PV}{d qs:Wam PV}{f:Wat}(M:o.op=.call c)(u:zc0 F c=some (f,d))(I:Qi P f=true)(N:ViewL PHeap.empty d qs)(L:∀p∈d,NoP p)(D:PCall P f qs (· = A)):PQ P W o F H A:=λV a w j O=>by
 obtain⟨B,G,z⟩:=zbq M u I λx y=>Rp.eval (P:=P) x λt u=>O t (by rw[<- u];exact y);have n:∀b,PZ W.Z H V b->b<w.heap.size:=λb l=>by
  rcases l with l|⟨id,h,k⟩
  {exact wa2 j b l};.exact(j.own_lt h k).2
 have q:RpL ⟨PZ W.Z H V,W.Z.m⟩ PHeap.empty V0 w d B:=⟨z.1,λi p v h k=>(z.2 i p v h k).noP (L p (wcq h)) λb _ hz g=>hz (J9.1 g)⟩
 have r:=RpL.view (P:=P) (W:={ w:=w,Z:=⟨PZ W.Z H V,W.Z.m⟩,hm:=wa8 j,gw:=j.gw }) (HRel.empty (Below.refl _ _) (λi=> .unk _) n) q N;exact zjb G ((D ⟨PZ W.Z H V,W.Z.m⟩ w B j.gw n (wa8 j) r).mono λe Q⟨v,p,h,k,s,C,l⟩=>⟨v,h,v,rfl,by subst k;exact C.noP s λb _ hz g=>hz (J9.2 g),l⟩)
def Rel.turn{V:Nm->Wan}{a:Act}{w w':Wao}(b:Rel P W n F H V a w){id:Nm}{b':zm8}{c:Wan}(f:Turn W H V w id b' c w')(i:∀g,b'.body=some g->BodyRel W (H.set id b') (zo V id c) w' c g)(d:Wal Nat)(j:∀t,d=some t->t<n){p:PV}{v:Wan}(k:Rp W.Z (H.set id b') (zo V id c) w' p v):
  Rel P W n (F.put d p) (H.set id b') (zo V id c) (a.put d v) w':=by
 refine⟨f.heap b.heap i,?_,?_,λt=>?_⟩
 ·cases d<;>simp[Act.put,b.size]
 ·cases d<;>simp[Act.put,b.defers]
 ·cases d with
  |none=>simpa [Act.put,PFrame.put]using f.rp (b.slot t)
  |some d=>
   by_cases e:d=t
   ·subst e;have:=j d rfl;simpa [Act.put,PFrame.put,b.size,this]using k
   ·have h:¬(some d=some t):=X;simp only[PFrame.put,if_neg h];have:=f.rp (b.slot t);simpa [Act.put,we3 e]using this
def Turn.new{V:Nm->Wan}{w w':Wao}(d:HRel P W H V w)(a:Below w.heap.size w w'){id:Nm}{b':zm8}(h:b'.ver=(H id).ver+1){e:Wan}(h0:∀g,qc e=some g->w.heap.size<=g):Turn W H V w id b' e w':=
 ⟨d.below.trans (a.mono d.below.size),a.size,λb c _=>a.block b c,λg f=> .inl (h0 g f),.inl U⟩
def wbt{o:Oper}{c:Call}{j qs:Wam PV}{f:Wat}{t:Wap}{D d:Nat}{id:Nm}{R:Nat->Wam Wan->Prop}{k:PV->Wau->Prop}(hd:o.dst=some d)(S:d<n)(ho:o.op=.call c)(L:zc0 F c=some (f,j))(Y:Qi P f=true)(hv:ViewL H j qs)(Q:jbe P f qs t D R)
  (J:∀m us,R m us->us.length=m*D->k (.ps id ((H id).ver+1)) (H.set id ⟨(H id).ver+1,some (.row t D m (us.map .u))⟩)):PE P W n o F H k:=λV a w C=>by
 obtain⟨vs,T,O⟩:=zbq ho L Y λx a4=>Rp.eval (P:=P) x λt L=>C.slot t;have z:=O.view C.heap hv;refine zjb T ((Q w vs ⟨z.1,λi p v s y=>(z.2 i p v s y).mono (λb M I=>⟨λhq=>(J9.1 hq).elim,I,rfl⟩) (wdz _) (λ_=>wcs _) (λid a5 _ s y=>⟨s,y,rfl⟩)⟩).mono λe w'⟨v,m,us,s,y,h,N,M⟩=>⟨v,s,.ps id ((H id).ver+1),_,zo V id v,J m us y h.1,?_⟩);have a2:=C.heap.below.size;have B:w'.ownsRow W.w.heap.size t D v m us:=⟨h.1,by
  rcases h.2 with h5|⟨g,l,q,e,A,r⟩
  ·grind
  ·exact .inr ⟨g,l,q,e,U,r⟩⟩
 refine C.turn (Turn.new C.heap M rfl λg A=>?_) (λbd G=>?_) o.dst (λt L=>X) ?_
 ·rcases h.2 with⟨e,_⟩|⟨g',l,q,e,Z,_⟩
  ·rw[e]at A;cases A
  ·rw[e]at A;cases A;omega
 ·cases G;exact⟨us,B,RpL.us us,N⟩
 ·refine .ps _ _ _ ?_ λ_ _=>?_
  ·simp[PHeap.set]
  ·simp[zo]
end
section
variable{P:Program}{W:Env}{n:Nat}{H:PHeap}{F:PFrame}
def zh{o:Oper}{a:Act}{w w':Wao}{v:Wan}{K:Act->Wao->Prop}{Q:Exit->Act->Wao->Prop}(b:(execOp a.eval o).run P w=.ok (.value v) w')(h:K (a.put o.dst v) w'):o.wp P a w K Q:=by unfold Oper.wp;rwa [b]
def Rel.newBox{V:Nm->Wan}{a:Act}{w:Wao}(c:Rel P W n F H V a w){d:Nat}{id:Nm}(m:d<n){t:Wap}{cs:Wam PV}{us:Array Wan}(h:RpL W.Z H V w cs us.toList)(f:∀v∈us.toList,v.oneCell'=true):
  Rel P W n (F.put (some d) (.pp id 0 ((H id).ver+1))) (H.set id ⟨(H id).ver+1,some (.box t cs)⟩) (zo V id (.pointer (some ⟨w.heap.size,0,none⟩))) (a.put (some d) (.pointer (some ⟨w.heap.size,0,none⟩))) (w.alloc (.cells us t)):=by
 have i:Below w.heap.size w (w.alloc (.cells us t)):=(Below.refl _ _).alloc (wcs _) _;have e:Turn W H V w id ⟨(H id).ver+1,some (.box t cs)⟩ (.pointer (some ⟨w.heap.size,0,none⟩)) (w.alloc (.cells us t)):=Turn.new c.heap i rfl λg j=>by cases j;simp
 refine c.turn e (λl b=>?_) (some d) (λt e=>X) ?_
 ·cases b;exact⟨_,us,rfl,c.heap.below.size,heap_alloc_new w _,h.mono λp v k=>e.rp k,f⟩
 ·refine .pp _ _ _ _ ?_ λ_ _=>⟨w.heap.size,?_,by simp[zo,zbd]⟩
  ·simp[PHeap.set]
  ·simp[zo,qc]
def zrf(P:Program)(t:TypeId):Option (List Value):=((P.info? t).bind (·.zero)).map λz=>z.cells.toList
def PE.alloc{o:Oper}{t:Wap}{d:Nat}{id:Nm}{us:Wam Wan}{k:PV->Wau->Prop}(l:o.op=.alloc t)(i:o.dst=some d)(c:d<n)(hz:zrf P t=some us)(h:us.all Value.oneCell'=true)(j:k (.pp id 0 ((H id).ver+1)) (H.set id ⟨(H id).ver+1,some (.box t (us.map .u))⟩)):PE P W n o F H k:=λV a w m=>by obtain⟨z,g,rfl⟩:=wct.1 hz;obtain⟨p,e,f⟩:=wdi.1 g;have b:(execOp a.eval o).run P w=.ok (.value (.pointer (some ⟨w.heap.size,0,none⟩))) (w.alloc (.cells z.cells t)):=by{simp[execOp,l];simp[Instr.alloc,zeroValue,typeInfo,e,f,newVar,newRow]};refine zh b ⟨_,_,zo V id (.pointer (some ⟨w.heap.size,0,none⟩)),j,?_⟩;rw[i];exact m.newBox c (RpL.us _) (wdu.1 h)
def PE.box{o:Oper}{t:Wap}{x:War}{d:Nat}{id:Nm}{k:PV->Wau->Prop}(l:o.op=.box t x)(i:o.dst=some d)(c:d<n)(e:okC H (evP F x)=true)(j:k (.pp id 0 ((H id).ver+1)) (H.set id ⟨(H id).ver+1,some (.box t (evP F x).cells)⟩)):PE P W n o F H k:=λV a w f=>by obtain⟨h,g⟩:=(Rp.eval (P:=P) x λt _=>f.slot t).cells f.heap e;have b:(execOp a.eval o).run P w=.ok (.value (.pointer (some ⟨w.heap.size,0,none⟩))) (w.alloc (.cells (a.eval x).cells t)):=by{simp[execOp,l];rfl};refine zh b ⟨_,_,zo V id (.pointer (some ⟨w.heap.size,0,none⟩)),j,?_⟩;rw[i];exact f.newBox c h g
def je2(off:Nat)(ps:List PV):PBody->PBody
 |.row t k n cs => .row t k n (setMany cs off ps)
 |.box t cs => .box t (setMany cs off ps)
 |b=>b
def z66{α:Type}(cs ps:Wam α)(off m:Nat)(h:off+ps.length<=m)(hm:m<=cs.length):(setMany cs off ps).take m=setMany (cs.take m) off ps:=by apply wd1;intro i;rw[wes,Zr _ _ _ U,Zr _ _ _ X,wes];grind
def z8v{w:Wao}{t:Wap}{ag:Bool}{k g off:Nat}{a:Array Wan}{T:Wap}{v:Wan}(h:asz P t=some (ag,k))(e:w.heap[g]?=some (.cells a T (0,0)))(f:v.cells.size=k)(b:off+k<=a.size)(c:∀u∈v.cells.toList,u.oneCell'=true):
  (Instr.storeAt t (.pointer (some ⟨g,off,none⟩)) v).run P w=.ok () (w.setRow g (setMany a.toList off v.cells.toList).toArray):=by
 have d:=(zgo h w).2;have i:=run_storeCells_at (P:=P) g off T v.cells.toList 0 a w e X c;simp[Instr.storeAt,Instr.sureAddr,storeVar,Sem.run_bind,Sem.run_pure,Result.andThen_ok,d,f,ne_eq,not_true_eq_false,if_false]
 assumption
def PE.store{o:Oper}{t:Wap}{x y:War}{id:Nm}{off ver k:Nat}{ag:Bool}{cs:Wam PV}{bd:PBody}{K:PV->Wau->Prop}(ho:o.op=.store t x y)(hd:Zc n o)(hx:evP F x=.pp id off ver)(hl:qd H id ver=some cs)(ht:asz P t=some (ag,k))(b6:okC H (evP F y)=true)(J:(evP F y).cells.length=k)(c1:off+k<=cs.length)(z:(H id).body=some bd)
  (hk:K (.u undef) (H.set id ⟨ver,some (je2 off (evP F y).cells bd)⟩)) (hq:∀t k n cs,bd ≠ .que t k n cs:=by intro _ _ _ _ h;cases h):PE P W n o F H K:=λV a w q=>by
 obtain⟨hR,h1⟩:=(Rp.eval (P:=P) y λt _=>q.slot t).cells q.heap b6;have O:=Rp.eval (P:=P) x λt _=>q.slot t;obtain⟨R,a2⟩:=J2 hl;rw[hx]at O;generalize hv:a.eval x=v at O;cases O with
 |pp _ _ _ _ d6 hh=>
  obtain⟨g,D,rfl⟩:=hh R a2;have h0:zbd (V id)=0:=by obtain⟨vs,h1,_⟩:=q.heap.body id bd z;exact h1.off0 hq
  rw[h0,wd0]at hv;have b7:(a.eval y).cells.size=k:=by rw[<- J];have:=hR.1;grind
  -- the block, and what it is behind the store
  have b9:∃c T,w.heap[g]?=some (.cells c T (0,0))/\off+k<=c.size/\W.w.heap.size<=g /\
    ∀H' V' w',(∀p v,Rp W.Z H V w p v->Rp W.Z H' V' w' p v)->w'.heap[g]?=some (.cells (setMany c.toList off (a.eval y).cells.toList).toArray T (0,0))->BodyRel W H' V' w' (V id) (je2 off (evP F y).cells bd):=by
   have s:=(q.heap.own_lt R D).1;cases bd with
   |row T kk m f=>
    have B:f=cs:=by unfold qd at hl;grind
    subst B;obtain⟨a5,a3,i,b2⟩:=q.heap.row id T kk m f z;rcases a3.2 with⟨e,_⟩|⟨Q,b0,c,e,j,G,Y,a0,I,L⟩
    ·rw[e]at D;cases D
    ·have:Q=g:=by rw[e]at D;simpa [qc]using D
     subst this;have b8:=i.1;have c9:=a3.1.symm;have d0:m*kk<=c.size:=X;refine⟨c,T,G,U,s,λH' V' w' hm N=>?_⟩;refine⟨setMany a5 off (a.eval y).cells.toList,⟨by rw[Qt _ _ _ X];omega,.inr ⟨Q,b0,_,e,j,N,Y,a0,by simp[Qt _ _ _ (show off+(a.eval y).cells.toList.length<=c.toList.length by grind),I],?_⟩⟩,?_,?_⟩
     ·rw[z66 _ _ _ _ X U,L]
     ·have:=RpL.setMany i hR (off:=off) U;exact this.mono hm
     ·intro u M;rcases zhw M with M|M
      ·grind
      grind
   |box T f=>
    have B:f=cs:=by unfold qd at hl;grind
    subst B;obtain⟨Q,arr,e,j,G,i,b2⟩:=q.heap.box id T f z;have:Q=g:=by rw[e]at D;simpa [qc]using D
    subst this;have b8:f.length=arr.size:=by have:=i.1;omega
    refine⟨arr,T,G,U,s,λH' V' w' hm N=>?_⟩;refine⟨Q,_,e,j,N,?_,?_⟩
    ·simp[List.toList_toArray];exact(RpL.setMany i hR U).mono hm
    ·intro u M;rcases zhw M with M|M
     ·grind
     grind
   |raw p cs φ=>unfold qd at hl;grind
   |que t k n cs=>grind
  obtain⟨c,T,r,C,c5,A⟩:=b9;have a4:=z8v ht r b7 C h1;have l:Turn W H V w id ⟨ver,some (je2 off (evP F y).cells bd)⟩ (V id) (w.setRow g (setMany c.toList off (a.eval y).cells.toList).toArray):=by
   have d:∀b,b≠g->(w.setRow g (setMany c.toList off (a.eval y).cells.toList).toArray).heap[b]?=w.heap[b]?:=λb hb=>setRow_other w g b _ hb;refine⟨q.heap.below.trans ⟨rfl,rfl,rfl,Waf,λb hb=>d b U⟩,Waf,λb hb hn=>d b λe=>hn ⟨R,X⟩,λQ j=> .inr ⟨R,j⟩,.inr ⟨a2.symm,rfl,R⟩⟩
  have:(execOp a.eval o).run P w=.ok .skip (w.setRow g (setMany c.toList off (a.eval y).cells.toList).toArray):=by
   simp[execOp,ho,hv,a4]
  unfold Oper.wp;rw[this];exact⟨.u undef,_,zo V id (V id),hk,q.turn l (λc4 S=>by
   cases S;exact A _ _ _ (λp v hp=>l.rp hp) (setRow_heap w g c _ T (0,0) r)) o.dst hd (.u _)⟩
def yz(P:Program)(t:TypeId):Option (TypeId×Nat×Nat×Value):=
 match P.underlying t with
 |some (.slice e)=>
  match P.info? e with
  |some i=>match i.zero with
   |some z=>if z.cells.size=i.size/\0<i.size then some (e,i.size,i.bytes,z)else none
   |none=>none
  |none=>none
 |_=>none
def Qr{t e:Wap}{k b:Nat}{z:Wan}(h:yz P t=some (e,k,b,z)):∃i,P.underlying t=some (.slice e)/\P.info? e=some i/\i.zero=some z/\i.size=k/\i.bytes=b/\z.cells.size=k/\0<k:=by unfold yz at h;grind
def z3x{k:Nat}{places:Wam (Nat×Nat)}:∀ps i cs,(∀p∈ps,p.cells.length=k/\okC H p=true)->(∀j,j<ps.length->places[i+j]?=some ((i+j)*k,k))->(i+ps.length)*k=cs.length ->
  zke H places cs ((List.range' i ps.length).zip ps)=some (cs.take (i*k)++ps.flatMap PV.cells)
 |[],i,cs,_,_,b=>by simp[weo,List.range'_zero,List.zip_nil_left,zke,List.flatMap_nil,wc1];grind
 |p::ps,i,cs,f,a,b=>by obtain⟨c,g⟩:=f p V;have d:=a 0 V;simp[wd9]at d;have e:(i+(ps.length+1))*k=i*k+k+ps.length*k:=X;simp only[wdq]at b⊢;rw[e]at b;simp only[List.range'_succ,List.zip_cons_cons,zke,d];rw[if_pos ⟨c,U,g⟩,z3x ps (i+1) _ (λq l=>f q X) (λj h=>by have:=a (j+1) X;grind) (by rw[Qt _ _ _ U,<- b,we4,we4];omega)];congr 1;rw[wdj,<- wc2];congr 1;unfold setMany;rw[c,we4,Nat.one_mul,List.take_append_of_le_length X,wd8 X]
def z1c(H:PHeap)(k len:Nat)(ps:List (Nat×PV)):Bool:=decide (ps.map (·.1)=range len) && ps.all (λp=>decide (p.2.cells.length=k) && okC H p.2)
def zmb{V:Nm->Wan}{w:Wao}(hr:HRel P W H V w){t e:Wap}{k b len:Nat}{z:Wan}(ht:yz P t=some (e,k,b,z))(O:len*k<=16777216){ps:Wam (Nat×PV)}{vs:Array (Nat×Wan)}(s:RpParts W.Z H V w ps vs.toList)(d:z1c H k len ps=true)(hz:z.cells.toList.all Value.oneCell'=true):
  ∃arr,(Instr.buildSlice t len vs).run P w=.ok (.slice (some ⟨w.heap.size,0,none⟩) len len) (w.alloc (.cells arr e))/\RpL W.Z H V w ((ps.map (·.2)).flatMap PV.cells) arr.toList/\(∀v∈arr.toList,v.oneCell'=true)/\arr.size=len*k/\ps.length=len:=by
 obtain⟨i,S,Q,M,rfl,rfl,a5,R⟩:=Qr ht;simp[z1c,wco,wc9,wdu]at d;obtain⟨c,l⟩:=d;have a:ps.length=len:=by have:=congrArg List.length c;grind
 have Y:ps=(List.range' 0 (ps.map (·.2)).length).zip (ps.map (·.2)):=by
  rw[wc0,a,<- List.range_eq_range',<- c];clear c l a s;induction ps with
  |nil=>rfl
  |cons p ps ih=>grind
 let g:Array Wan:=(Array.range (len*i.size)).map (z.cells[· % z.cells.size]!)
 have J:g.size=len*i.size:=X;have m:∀v∈g.toList,v.oneCell'=true:=λv T=>by
  simp[g,Array.toList_map,wc6]at T;obtain⟨j,_,rfl⟩:=T;have hj:j % z.cells.size<z.cells.size:=Nat.mod_lt _ U
  grind
 have hf:zke H ((range len).map λj=>(j*i.size,i.size)) (g.toList.map .u) ps=some ((ps.map (·.2)).flatMap PV.cells):=by
  have:=z3x (H:=H) (k:=i.size) (places:=(range len).map λj=>(j*i.size,i.size)) (ps.map (·.2)) 0 (g.toList.map .u) (λp s=>by
   grind) (λj hj=>by
   grind) X
  grind
 obtain⟨r,D,n,F⟩:=zj9 hr (place:=λj=>some (j*i.size,i.size)) (λj x hx=>by
  grind) ps vs.toList _ g _ s (RpL.us _) m hf
 have o:r.size=len*i.size:=by
  have h1:=n.1;have:((ps.map (·.2)).flatMap PV.cells).length=len*i.size:=by
   have:∀(f:Wam PV),(∀y∈f,y.cells.length=i.size)->(f.flatMap PV.cells).length=f.length*i.size:=by
    intro f;induction f with
    |nil=>simp
    |cons y f ih=>grind
   grind
  grind
 refine⟨r,?_,n,F,o,a⟩;have L:(zeroValue e).run P w=.ok z w:=by simp[zeroValue,typeInfo,Q,M]
 have q:(sizeOf e).run P w=.ok i.size w:=by simp[sizeOf,typeInfo,Q]
 have B:¬(len*i.size > 16777216):=U;by_cases h0:len*i.size=0
 ·have A:len=0:=by rcases Nat.mul_eq_zero.1 h0 with h|h<;>omega
  subst A;have a2:=wdp a;have I:vs = #[]:=by apply Array.ext';have:=s.1;grind
  subst I;have C:r = #[]:=X;subst C;unfold Instr.buildSlice;have G:Array.range 0 = #[]:=rfl;simp[run_underlying S,q,newRow,Instr.fill,G]
 ·unfold Instr.buildSlice;simp[run_underlying S,q,Sem.run_bind,Result.andThen_ok,B,h0,if_false,L,Sem.run_ite,Sem.run_pure];have:Instr.fill (λN=>some (N*i.size,i.size)) ((Array.range (len*i.size)).map (z.cells[· % z.cells.size]!)) vs.toList=some r:=D;simp[this,newRow]
end
section
variable{P:Program}{W:Env}{n:Nat}{H:PHeap}{F:PFrame}
def RpParts.eval{V:Nm->Wan}{w:Wao}{a:Act}(b:Array (Nat×War))(h:∀x∈b.toList,Rp W.Z H V w (evP F x.2) (a.eval x.2)):
  RpParts W.Z H V w (b.toList.map λx=>(x.1,evP F x.2)) (b.map λx=>(x.1,a.eval x.2)).toList:=⟨Waf,λi p v c d=>by
 grind⟩
def Rel.newRow{V:Nm->Wan}{a:Act}{w w':Wao}(h:Rel P W n F H V a w){d:Nat}{id:Nm}(s:d<n){t:Wap}{k m:Nat}{cs:Wam PV}{us:Wam Wan}{b:Wan}(l:Below w.heap.size w w')(f:∀g,qc b=some g->w.heap.size<=g)(o:w'.ownsRow W.w.heap.size t k b m us)
  (j:RpL W.Z H V w cs us) (i:∀v∈us,v.oneCell'=true) :
  Rel P W n (F.put (some d) (.ps id ((H id).ver+1))) (H.set id ⟨(H id).ver+1,some (.row t k m cs)⟩) (zo V id b) (a.put (some d) b) w':=by
 have e:Turn W H V w id ⟨(H id).ver+1,some (.row t k m cs)⟩ b w':=Turn.new h.heap l rfl f;refine h.turn e (λr c=>?_) (some d) (λt e=>X) ?_
 ·cases c;exact⟨us,o,j.mono λp v q=>e.rp q,i⟩
 ·refine .ps _ _ _ ?_ λ_ _=>?_
  ·simp[PHeap.set]
  ·simp[zo]
def PE.buildSlice{o:Oper}{t e:Wap}{k b len d:Nat}{id:Nm}{z:Wan}{c:Array (Nat×War)}{K:PV->Wau->Prop}(C:o.op=.buildSlice t len c)(y:o.dst=some d)(m:d<n)(G:yz P t=some (e,k,b,z))(hz:z.cells.toList.all Value.oneCell'=true)(f:len*k<=16777216)(i:len<=maxLen)
  (h:z1c H k len (c.toList.map λx=>(x.1,evP F x.2))=true) (B:K (.ps id ((H id).ver+1)) (H.set id ⟨(H id).ver+1,some (.row e k len ((c.toList.map λx=>evP F x.2).flatMap PV.cells))⟩)):PE P W n o F H K:=λV a w l=>by
 have D:=RpParts.eval c λx _=>Rp.eval (P:=P) x.2 λt _=>l.slot t;obtain⟨arr,j,u,s,q,r⟩:=zmb l.heap G f D h hz;have p:(execOp a.eval o).run P w=.ok (.value (.slice (some ⟨w.heap.size,0,none⟩) len len)) (w.alloc (.cells arr e)):=by
  simp[execOp,C,j]
 refine zh p ⟨_,_,zo V id (.slice (some ⟨w.heap.size,0,none⟩) len len),B,?_⟩;rw[y];have v:Below w.heap.size w (w.alloc (.cells arr e)):=(Below.refl _ _).alloc (wcs _) _;refine l.newRow m v (λg A=>by cases A;simp) ⟨U,.inr ⟨w.heap.size,len,arr,rfl,l.heap.below.size,heap_alloc_new w _,wcs _,i,q,by rw[wd8 X]⟩⟩ ?_ s;simpa [wd3,Function.comp_def]using u
def PQ.buildSlice{o:Oper}{t e:Wap}{k b len:Nat}{z:Wan}{c:Array (Nat×War)}(v:o.op=.buildSlice t len c)(A:yz P t=some (e,k,b,z))(hz:z.cells.toList.all Value.oneCell'=true)(g:len*k<=16777216)
  (d:z1c H k len (c.toList.map λx=>(x.1,evP F x.2))=true):PQ P W o F H (.sl k (c.toList.map λx=>evP F x.2)):=λV a w r L=>by
 have G:=RpParts.eval c λx M=>Rp.eval (P:=P) x.2 λt A=>L t (by
  rw[v];simp[Op.operands,List.mem_toArray,wc6]
  grind)
 obtain⟨arr,j,l,N,I,u⟩:=zmb r A g G d hz;have n:(execOp a.eval o).run P w=.ok (.value (.slice (some ⟨w.heap.size,0,none⟩) len len)) (w.alloc (.cells arr e)):=by
  simp[execOp,v,j]
 have s:Below w.heap.size w (w.alloc (.cells arr e)):=(Below.refl _ _).alloc (wcs _) _;refine zh n ⟨_,rfl,?_,s⟩;have q:(c.toList.map λx=>(x.1,evP F x.2)).map (·.2)=c.toList.map λx=>evP F x.2:=Waf;rw[q]at l;have D:(c.toList.map λx=>evP F x.2).length=len:=X;simp only[z1c,wco,wc9,wdu]at d;have:=Rp.sl (V:=V) (w:=w.alloc (.cells arr e)) k (c.toList.map λx=>evP F x.2) w.heap.size 0 len (λi=>(arr[i]?).getD undef) (λy O=>by
  grind) U (λhz=>by
  rcases hz with hz|⟨id,B,C⟩
  ·have:=wa2 r _ hz;omega
  ·have:=(r.own_lt B C).2;omega) Waf (λi p m=>by
  have f:=(wcl.1 m).1;have h:=Nat.lt_of_lt_of_eq f (l.1.trans Array.length_toList);simp_all) (λi p m=>by
  have f:=(wcl.1 m).1;have h:=Nat.lt_of_lt_of_eq f (l.1.trans Array.length_toList);have:=l.2 i p arr[i] m Waf;simp[h,wdf,wdx];exact this.grow s)
 grind
def PE.makeSlice{o:Oper}{t e:Wap}{b d m:Nat}{id:Nm}{z:Wan}{x y:War}{G I:Was}{K:PV->Wau->Prop}(T:o.op=.makeSlice t x y)(O:o.dst=some d)(s:d<n)(Y:yz P t=some (e,1,b,z))(M:z.oneCell'=true)
  (J:evP F x=.u (.int G (m:Int))) (hy:evP F y=.u (.int I (m:Int))) (c:m<=maxLen) (j:b*m<=281474976710656) (S:K (.ps id ((H id).ver+1)) (H.set id ⟨(H id).ver+1,some (.row e 1 m (replicate m (.u z)))⟩)):PE P W n o F H K:=λV a w l=>by
 obtain⟨i,Z,R,D,h,rfl,a1,L⟩:=Qr Y;have A:a.eval x=.int G m:=by
  have:=Rp.eval (P:=P) x λt _=>l.slot t;rw[J]at this;generalize a.eval x=q at this;cases this;rfl
 have B:a.eval y=.int I m:=by
  have:=Rp.eval (P:=P) y λt _=>l.slot t;rw[hy]at this;generalize a.eval y=q at this;cases this;rfl
 have p:(m:Int)<=9223372036854775807:=by have:=c;simp[maxLen]at this;omega
 have r:(i.bytes:Int)*(m:Int)<=281474976710656:=by
  omega
 have f:=run_make w t e i z Z R D G I m m U (Int.le_refl _) r p;simp[wcy,h,Nat.mul_one]at f;have v:(execOp a.eval o).run P w=.ok (.value (.slice (some ⟨w.heap.size,0,none⟩) m m)) (w.alloc (.cells (madeCells z.cells m) e)):=by
  simp[execOp,T,A,B,f]
 refine zh v ⟨_,_,zo V id (.slice (some ⟨w.heap.size,0,none⟩) m m),S,?_⟩;rw[O];have N:Below w.heap.size w (w.alloc (.cells (madeCells z.cells m) e)):=(Below.refl _ _).alloc (wcs _) _;have C:z.cells = #[z]:=by cases z<;>first|rfl|trivial
 have k:(madeCells z.cells m).toList=replicate m z:=by
  rw[C];simp[madeCells,Array.toList_map,Array.toList_range];apply wd1
  grind
 refine l.newRow (us:=replicate m z) s N (λg Q=>by cases Q;simp) ⟨Waf,.inr ⟨w.heap.size,m,_,rfl,l.heap.below.size,heap_alloc_new w _,wcs _,c,by simp[size_madeCells],X⟩⟩ ?_ ?_
 ·have:=RpL.us (W:=W) (H:=H) (V:=V) (w:=w) (replicate m z);simp_all
 grind
end
section
variable{P:Program}{W:Env}{n:Nat}{H:PHeap}{F:PFrame}
def zxu(H:PHeap)(k:Nat):PV->Option (Nat×List PV)
 |.sl a c=>if a=k then some (c.length,c.flatMap PV.cells)else none
 |.ps id b=>
  match J6 H id b with
  |some (_,a,m,cs)=>if a=k then some (m,cs)else none
  |none=>none
 |.u (.slice _ 0 _)=>some (0,[])
 |_=>none
def flat_length{k:Nat}:∀(ys:Wam PV),(∀y∈ys,y.cells.length=k)->(ys.flatMap PV.cells).length=ys.length*k
 |[],_=>V
 |y::ys,h=>by rw[wdj,wc4,flat_length ys (λz hz=>h z X),h y V,wdq,we4];omega
def zlg{V:Nm->Wan}{w:Wao}(R:HRel P W H V w){k m:Nat}{cs:Wam PV}{p:PV}{v:Wan}(y:Rp W.Z H V w p v)(h:zxu H k p=some (m,cs)):
  ∃A c,v=.slice A m c/\((m=0/\cs=[])\/∃b d,A=some b/\d.length=m*k/\RpL W.Z H V w cs d/\∀j u,d[j]?=some u->w.cell? (b.add j)=some u):=by
 unfold zxu at h;split at h
 ·rename_i z q;split at h
  ·rename_i s;subst s;cases h;cases y with
   |nil k a c=>simp
   |sl k q b o c g n D hz C I L=>
    have M:=flat_length q n;refine⟨_,c,rfl,.inr ⟨⟨b,o,none⟩,(range (q.length*z)).map g,rfl,Waf,⟨X,λi p v Y J=>?_⟩,λj u n=>?_⟩⟩
    ·grind
    ·rw[Jr];have Q:j<q.length*z:=X;simp_all
  grind
 ·rename_i id T;split at h
  ·rename_i t z m' F O;split at h
   ·rename_i s;subst s;cases h;obtain⟨C,x⟩:=Jw O;cases y with
    |ps _ _ _ S N=>
     rw[N X x];obtain⟨f,l,B,_⟩:=R.row id t _ _ _ C;rcases l.2 with⟨e,rfl⟩|⟨g,r,G,e,_⟩
     ·refine⟨none,0,e,.inl ⟨rfl,?_⟩⟩;have I:=l.1;have L:=B.1
      grind
     ·refine⟨_,r,e,.inr ⟨_,f,rfl,l.1,B,λj u n=>l.cells (by rw[e];rfl) j u n⟩⟩
   grind
  grind
 ·cases h;cases y;simp
 grind
def zlq{w:Wao}{base:Nat}{t ty e:Wap}{i:TypeInfo}{z:Wan}{k:Nat}(A:P.underlying t=some (.slice e))(hi:P.info? e=some i)(hz:i.zero=some z)(R:i.size=k)(F:z.cells.size=k)(q:0<k)
  {v:Wan}{m:Nat}{xs:Wam Wan}(d:w.ownsRow base e k v m xs){I:Wal Addr}{l c:Nat}{a:Wam Wan}(hs:(l=0/\a=[])\/∃b,I=some b/\a.length=l*k/\(∀j u,a[j]?=some u->w.cell? (b.add j)=some u)/\∀u∈a,u.oneCell'=true)
  (s:m+l<=maxLen) (f:(m+l)*i.bytes<=140737488355328) (x:base<=w.heap.size) :
  ∃G H,(Builtin.append_ #[t,t] ty #[v,.slice I l c]).run P w=.ok G H/\H.ownsRow base e k G (m+l) (xs++a)/\w.grownBy H v.ownBlock/\∀g,qc G=some g->w.heap.size<=g\/qc v=some g:=by
 rcases hs with⟨rfl,rfl⟩|⟨b,rfl,D,L,N⟩
 ·refine⟨v,w,?_,X,⟨rfl,rfl,rfl,wcs _,λ_ _ _=>rfl⟩,λg C=> .inr C⟩;rcases d.2 with⟨rfl,rfl⟩|⟨g,n,r,rfl,_,_,p,_⟩
  ·cases I<;>simp[Builtin.append_,run_underlying A,sizeOf,typeInfo,hi,Builtin.lenOf,Builtin.firstCells,loadCells,loadCellsFrom]
  ·cases I<;>simp[Builtin.append_,run_underlying A,sizeOf,typeInfo,hi,Builtin.lenOf,Builtin.firstCells,loadCells,loadCellsFrom,p,storeCells]
 ·obtain⟨G,H,M,Z,J,_⟩:=run_append_own w base t ty e i z k i.bytes A hi hz R rfl F q v m xs d b l c a D L N s f x;refine⟨G,H,M,Z,J,λg C=>?_⟩;rcases d.2 with⟨rfl,rfl⟩|⟨T,n,r,rfl,a0,Q,p,a1,O,S⟩
  ·have hx:=wdp (by simpa using d.1);obtain⟨v2,w2,h,Y,_⟩:=run_append_own w w.heap.size t ty e i z k i.bytes A hi hz R rfl F q (.slice none 0 0) 0 [] (World.ownsRow_nil _ _ _ _) b l c a D L N s f (wcs _);rw[M]at h;cases h;left;refine(Y.lt g ?_).1;rcases Y.2 with⟨rfl,_⟩|⟨g',n,r,rfl,_⟩
   ·cases C
   trivial
  ·subst R;by_cases o:m+l<=n
   ·have h:=run_append_room w t ty e i A hi T m n r Q b l c a D L N o (by rw[D,O,<- we4];exact weg _ o);rw[M]at h;cases h;exact .inr C
   ·have y:=d.cells rfl;have B:((m+l:Nat):Int)<=9223372036854775807:=by simp[maxLen]at s;omega
    have h:=run_append_grow w t ty e i z A hi hz ⟨T,0,none⟩ m n xs d.1 y b l c a D L U B (growslice_fits U f);rw[M]at h;cases h;cases C;simp
def zac{w:Wao}{base:Nat}{e:Wap}{k m:Nat}{v:Wan}{xs:Wam Wan}(h:w.ownsRow base e k v m xs):v.ownBlock=qc v:=by rcases h.2 with⟨rfl,_⟩|⟨g,a,b,rfl,_⟩<;>rfl
def PE.append{o:Oper}{s x:War}{t e:Wap}{k b d ver m M:Nat}{id:Nm}{z:Wan}{cs r:Wam PV}{K:PV->Wau->Prop}(ho:o.op=.call { callee :=.builtin .append,args:=#[s,x],argTypes:=#[t,t] })(hd:o.dst=some d)(c2:d<n)(ht:yz P t=some (e,k,b,z))
  (hs:evP F s=.ps id ver) (hl:J6 H id ver=some (e,k,m,cs)) (hx:zxu H k (evP F x)=some (M,r)) (G:∀p∈r,V4 H p=true) (a2:m+M<=maxLen) (B:(m+M)*b<=140737488355328)
  (hk:K (.ps id (ver+1)) (H.set id ⟨ver+1,some (.row e k (m+M) (cs++r))⟩)):PE P W n o F H K:=λV a w C=>by
 obtain⟨i,Y,hi,b3,b0,rfl,b2,R⟩:=Qr ht;obtain⟨hb,d0⟩:=Jw hl;have a9:a.eval s=V id:=by
  have:=Rp.eval (P:=P) s λt _=>C.slot t;rw[hs]at this;generalize a.eval s=q at this;cases this with
  |ps _ _ _ d1 hh=>grind
 obtain⟨J,A,N,h1⟩:=C.heap.row id e k m cs hb;obtain⟨ad,c,b1,T⟩:=zlg C.heap (Rp.eval (P:=P) x λt _=>C.slot t) hx;have L:∃f,RpL W.Z H V w r f/\(∀u∈f,u.oneCell'=true)/\((M=0/\f=[])\/∃b,ad=some b/\f.length=M*k/\(∀j u,f[j]?=some u->w.cell? (b.add j)=some u)/\∀u∈f,u.oneCell'=true):=by
  rcases T with⟨rfl,rfl⟩|⟨b,f,e1,e2,y,e4⟩
  ·exact⟨[],⟨rfl,λi p v h=>Waf⟩,(λu Y=>X),.inl ⟨rfl,rfl⟩⟩
  ·have Q:∀u∈f,u.oneCell'=true:=λu Y=>by
    obtain⟨j,hj,rfl⟩:=wei Y;have O:j<r.length:=by rw[y.1];omega
    exact(y.2 j _ _ (wch O) (wch hj)).leaf C.heap (G _ (wcm O))
   grind
 obtain⟨f,y,Q,a8⟩:=L;obtain⟨v',w',S,I,D,b5⟩:=zlq (ty:=o.type) (c:=c) Y hi b3 b0 b2 R A a8 a2 B C.heap.below.size;have a4:(execOp a.eval o).run P w=.ok (.value v') w':=by
  unfold execOp;simp[ho,resolve,invoke,builtin,Sem.run_bind,Sem.run_pure,Result.andThen_ok,wfh,wc7,wea,a9,b1,S]
 refine zh a4 ⟨_,_,zo V id v',hk,?_⟩;have c8:=zac A;have l:Turn W H V w id ⟨ver+1,some (.row e k (m+M) (cs++r))⟩ v' w':=by
  refine⟨C.heap.below.grown D C.heap.below.size λkk hk=>?_,D.size,λbb a7 hn=>D.block bb a7 λe'=>hn ⟨X,X⟩,λg hg=>?_,.inl X⟩
  ·exact(A.lt kk hk).1
  grind
 rw[hd];refine C.turn l (λbd a3=>?_) (some d) (λt ht=>X) ?_
 ·cases a3;refine⟨J++f,I,⟨by simp[N.1,y.1],λi p v h3 h4=>?_⟩,λu Y=>?_⟩
  ·by_cases a5:i<cs.length
   ·rw[wcx a5]at h3;rw[wcx (by rw[<- N.1];omega)]at h4;exact l.rp (N.2 i p v h3 h4)
   ·rw[wcz U]at h3;rw[wcz (by rw[<- N.1];omega),<- N.1]at h4;exact l.rp (y.2 _ p v h3 h4)
  grind
 ·refine .ps _ _ _ ?_ λ_ _=>?_
  ·simp[PHeap.set]
  ·simp[zo]
def way{o:Oper}{s x:War}{t e:Wap}{k b d G:Nat}{id:Nm}{z:Wan}{l:Wam PV}{K:PV->Wau->Prop}(ho:o.op=.call { callee :=.builtin .append,args:=#[s,x],argTypes:=#[t,t] })(hd:o.dst=some d)(S:d<n)(ht:yz P t=some (e,k,b,z))
  (hs:evP F s=.u (.slice none 0 0)) (hx:zxu H k (evP F x)=some (G,l)) (B:∀p∈l,V4 H p=true) (a8:G<=maxLen) (Q:G*b<=140737488355328)
  (Y:K (.ps id ((H id).ver+1)) (H.set id ⟨(H id).ver+1,some (.row e k G l)⟩)):PE P W n o F H K:=λV a w D=>by
 obtain⟨i,R,hi,a4,a1,rfl,a3,M⟩:=Qr ht;have a0:a.eval s=.slice none 0 0:=by
  have:=Rp.eval (P:=P) s λt _=>D.slot t;rw[hs]at this;generalize a.eval s=q at this;cases this;rfl
 obtain⟨ad,c,a2,O⟩:=zlg D.heap (Rp.eval (P:=P) x λt _=>D.slot t) hx;have C:∃f,RpL W.Z H V w l f/\(∀u∈f,u.oneCell'=true)/\((G=0/\f=[])\/∃b,ad=some b/\f.length=G*k/\(∀j u,f[j]?=some u->w.cell? (b.add j)=some u)/\∀u∈f,u.oneCell'=true):=by
  rcases O with⟨rfl,rfl⟩|⟨b,f,e1,e2,y,e4⟩
  ·exact⟨[],⟨rfl,λi p v h=>Waf⟩,(λu R=>X),.inl ⟨rfl,rfl⟩⟩
  ·have A:∀u∈f,u.oneCell'=true:=λu R=>by
    obtain⟨j,hj,rfl⟩:=wei R;have L:j<l.length:=by rw[y.1];omega
    exact(y.2 j _ _ (wch L) (wch hj)).leaf D.heap (B _ (wcm L))
   grind
 obtain⟨f,y,A,J⟩:=C;obtain⟨v',w',N,r,m,I⟩:=zlq (ty:=o.type) (c:=c) R hi a4 a1 a3 M (World.ownsRow_nil w W.w.heap.size e k) J U X D.heap.below.size;have T:(execOp a.eval o).run P w=.ok (.value v') w':=by
  unfold execOp;simp[ho,resolve,invoke,builtin,Sem.run_bind,Sem.run_pure,Result.andThen_ok,wfh,wc7,wea,a0,a2,N]
 refine zh T ⟨_,_,zo V id v',Y,?_⟩;rw[hd];rw[wd0,web]at r;have hb:Below w.heap.size w w':=⟨m.os,m.tape,m.output,m.size,λk Y=>m.block k Y (by simp[Value.ownBlock])⟩
 exact D.newRow S hb (λg hg=>(I g hg).resolve_right (by simp[qc])) r y A
def PL(P:Program)(W:Env)(n:Nat)(ops:Array Oper)(l:List Oper)(F:PFrame)(H:PHeap)(K:PFrame->PHeap->Prop):Prop:=
 ∀(V:Nm->Value)(a:Act)(w:World)(Q:Exit->Act->World->Prop),Rel P W n F H V a w->(∀b c f d e,K b c->Rel P W n b c f d e->Q .normal d e)->wpList P ops Q l a w
def PL.nil{ops:Array Oper}{K:Wav->Wau->Prop}(h:K F H):PL P W n ops [] F H K:=λV a w Q c b=>wpList_nil (b F H V a w h c)
def ji9{o:Oper}{a:Act}{w:Wao}{K i:Act->Wao->Prop}{Q:Exit->Act->Wao->Prop}(h:o.wp P a w K (λ_ _ _=>False))(j:∀a w,K a w->i a w):o.wp P a w i Q:=by
 unfold Oper.wp at *;generalize (execOp a.eval o).run P w=r at *;cases r with
 |ok k l=>
  cases k<;>simp[Oper.upon]at h⊢;case value u=>grind
  case skip=>grind
  case defer d=>grind
  case enter f args=>
   refine h.mono λe g b=>?_;cases e with
   |returned v=>grind
   |panicked c=>grind
   |outgrown=>obtain⟨_,_,m⟩:=b;grind
  case row row args=>exact h.mono λv g b=>j _ _ b
 |halt x l=>cases x<;>simp[Oper.upon]at h
def PL.cons{ops:Array Oper}{o:Oper}{l:Wam Oper}{K:Wav->Wau->Prop}(j:Y8 ops o F=some true)(h:PE P W n o F H λp c=>PL P W n ops l (F.put o.dst p) c K):PL P W n ops (o::l) F H K:=λV a w Q d g=>by unfold wpList;rw[zd2 j d.slot];exact .inl (ji9 (h V a w d) λf k⟨p,c,e,i,b⟩=>i e f k Q b g)
def PL.skip{ops:Array Oper}{o:Oper}{l:Wam Oper}{K:Wav->Wau->Prop}(e:Y8 ops o F=some false)(d:Zc n o)(h:PL P W n ops l (F.put o.dst (.u undef)) H K):PL P W n ops (o::l) F H K:=λV a w Q b c=>by unfold wpList;rw[zd2 e b.slot];exact h V _ w Q (b.put (Below.refl _ _) o.dst d (.u _)) c
def PC(P:Program)(W:Env)(n:Nat)(c:Code)(F:PFrame)(H:PHeap)(Q:Exit->PFrame->PHeap->Prop):Prop:=
 ∀(V:Nm->Value)(a:Act)(w:World)(f:Exit->Act->World->Prop),Rel P W n F H V a w->(∀e b d i g h,Q e b d->Rel P W n b d i g h->f e g h)->c.wp P f a w
def jw7(K:PFrame->PHeap->Prop)(Q:Exit->PFrame->PHeap->Prop):Exit->PFrame->PHeap->Prop
 |.normal,F,H=>K F H
 |e,F,H=>Q e F H
def z01(id:Nat)(Q:Exit->PFrame->PHeap->Prop):Exit->PFrame->PHeap->Prop
 |.exit a,F,H=>if a=id then Q .normal F H else Q (.exit a) F H
 |e,F,H=>Q e F H
section
variable{Q:Exit → PFrame → PHeap → Prop}
def PC.skip(h:Q .normal F H):PC P W n .skip F H Q:=λV a w d c b=>wp_skip (b _ _ _ _ _ _ h c)
def PC.ret(h:Q .ret F H):PC P W n .ret F H Q:=λV a w d c b=>wp_ret (b _ _ _ _ _ _ h c)
def PC.exit{id:Nat}(h:Q (.exit id) F H):PC P W n (.exit id) F H Q:=λV a w d c b=>wp_exit (b _ _ _ _ _ _ h c)
def PC.seq{x y:Code}(h:∀K,(∀F H,PC P W n y F H Q->K F H)->PC P W n x F H (jw7 K Q)):PC P W n (.seq x y) F H Q:=λV a w f j c=>by refine wp_seq (h (λF H=>PC P W n y F H Q) (λ_ _ h=>h) V a w _ j λe l m g i k d b=>?_);cases e with|normal=>{exact d g i k f b c}|_=>exact c _ _ _ _ _ _ d b
def PC.cond{c:War}{x y:Code}{t:Bool}(i:evP F c=.u (.bool t))(k:t=true->PC P W n x F H Q)(j:t=false->PC P W n y F H Q):PC P W n (.cond c x y) F H Q:=λV a w f d g=>by have b:=Rp.eval (P:=P) c λt _=>d.slot t;rw[i]at b;have h:a.eval c=.bool t:=by{generalize a.eval c=q at b;cases b;rfl};exact wp_cond_split h (λe=>k e V a w f d g) (λe=>j e V a w f d g)
def PC.block{id:Nat}{c:Code}(h:PC P W n c F H (z01 id Q)):PC P W n (.block id c) F H Q:=λV a w l g f=>by refine wp_block (h V a w _ g λe j k m o p d b=>?_);cases e with|exit i=>{simp[z01]at d;simp[Exit.inBlock];grind}|_=>exact f _ _ _ _ _ _ d b
def joj{c:Code}{Q:Exit->Act->Wao->Prop}(I:Nat->Act->Wao->Prop)(round:∀m a w,I m a w->c.wp P (Exit.then (λi n=>∃p,p<m/\I p i n) Q) a w){m:Nat}{a:Act}{w:Wao}(h:I m a w):(Code.loop c).wp P Q a w:=by intro b k cs;have t:∀m a w,I m a w->∃e i n,Q e i n/\Arrives P (lone (b.at a (.code c :: .inLoop c::k)) cs w) b k cs e i n:=by{intro m;induction m using Nat.strongRecOn with|_ m y=>intro a w x;obtain⟨e,j,o,f,d⟩:=round m a w x b (.inLoop c::k) cs;cases e with|normal=>{obtain⟨p,r,q⟩:=f;obtain⟨v,u,z,s,g⟩:=y p r j o q;exact⟨v,u,z,s,.of_steps (Steps.trans d (.one step_inLoop)) g⟩}|exit id=>{exact⟨_,j,o,f,.pass rfl (λ_ _=> .inl V) d⟩}|goto l=>{exact⟨_,j,o,f,.pass rfl (λ_ _=> .inl V) d⟩}|ret=>{exact⟨_,j,o,f,.pass rfl (λ_ _=> .inl V) d⟩}|panic ch=>{exact⟨_,j,o,f,.pass rfl (λ_ _=> .inl V) d⟩}|outgrown=>exact⟨_,j,o,f,.pass rfl (λ_ _=> .inl V) d⟩};obtain⟨e,i,n,f,d⟩:=t m a w h;exact⟨e,i,n,f,.of_steps (.one step_loop) d⟩
def PC.loop{c:Code}(I:Nat->Wav->Wau->Prop){m:Nat}(h0:I m F H)(round:∀m F H,I m F H->PC P W n c F H (jw7 (λf g=>∃d,d<m/\I d f g) Q)):PC P W n (.loop c) F H Q:=λV a w q k p=>by refine joj (λm a w=>∃F H V,I m F H/\Rel P W n F H V a w) (λm a w i=>?_) ⟨F,H,V,h0,k⟩;obtain⟨F,H,V,i,k⟩:=i;refine round m F H i V a w _ k λe f g o r s l b=>?_;cases e with|normal=>{obtain⟨d,j,h⟩:=l;exact⟨d,j,f,g,o,h,b⟩}|_=>exact p _ _ _ _ _ _ l b
def PC.region{id:Nat}{l:Wam Oper}(h:PL P W n l.toArray l F H (Q .normal)):PC P W n (.region id l.toArray false) F H Q:=λV a w c f d=>wp_region_lit (h V a w c f λg i j k m e b=>d _ _ _ _ _ _ e b)
def PC.mono{c:Code}{f:Exit->Wav->Wau->Prop}(h:PC P W n c F H Q)(o:∀e F H,Q e F H->f e F H):PC P W n c F H f:=λV a w b p l=>h V a w b p λe g i j k q m d=>l e g i j k q (o _ _ _ m) d
end
def zkc(P:Program)(H:PHeap)(F:PFrame):ResultVar->Option PV
 |.tmp t=>some (F t)
 |.cell a t=>zco P H t (F a)
def jeu(P:Program)(fn:Func)(F:PFrame)(H:PHeap):Option PV:=
 match fn.results.toList with
 |[r]=>zkc P H F r
 |l=>(l.mapM (zkc P H F)).map .tup
def zx3{V:Nm->Wan}{a:Act}{w:Wao}(b:Rel P W n F H V a w)(r:ResultVar){p:PV}(h:zkc P H F r=some p):
  ∃v,((match r with|.tmp t=>pure (a.tmps.getD t undef)|.cell x t=>do loadVar t (<- asAddr (a.tmps.getD x undef))):Sem Wan).run P w=.ok v w/\Rp W.Z H V w p v:=by
 cases r with
 |tmp t=>cases h;exact⟨_,rfl,b.slot t⟩
 |cell x t=>
  obtain⟨u,d,e⟩:=zuo b.heap (b.slot x) h;refine⟨u,?_,e⟩;show(do loadVar t (<- asAddr (a.tmps.getD x undef)):Sem Wan).run P w=.ok u w;generalize a.tmps.getD x undef=q at d⊢;cases q with
  |pointer c=>
   cases c with
   |none=>trivial
   |some c=>assumption
  |_=>simp[Instr.loadAt,Instr.sureAddr]at d
def zx0{V:Nm->Wan}{a:Act}{w:Wao}(g:Rel P W n F H V a w):∀(l:Wam ResultVar)ps,l.mapM (zkc P H F)=some ps ->
  ∃c,(l.mapM λr=>(match r with|.tmp t=>pure (a.tmps.getD t undef)|.cell x t=>do loadVar t (<- asAddr (a.tmps.getD x undef)):Sem Wan)).run P w=.ok c w/\RpL W.Z H V w ps c
 |[],ps,h=>by simp at h;subst h;exact⟨[],Waf,rfl,λi p v h=>Waf⟩
 |r::l,ps,h=>by simp[ Option.bind_eq_bind]at h;cases e:zkc P H F r with|none=>{grind}|some p=>cases f:l.mapM (zkc P H F)with|none=>{grind}|some d=>rw[e,f]at h;simp at h;subst h;obtain⟨v,u,s⟩:=zx3 g r e;obtain⟨c,j,b⟩:=zx0 g l d f;refine⟨v::c,?_,by simp[b.1],λi k m o q=>?_⟩;{simp_all};.cases i with|zero=>{grind}|succ i=>exact b.2 i k m X X
def z02{V:Nm->Wan}{a:Act}{w:Wao}(m:Rel P W n F H V a w){fn:Func}{p:PV}(h:jeu P fn F H=some p):∃v,(results fn a.tmps).run P w=.ok v w/\Rp W.Z H V w p v:=by
 have d:∀b,(fn.results.toList.mapM λr=>(match r with|.tmp t=>pure (a.tmps.getD t undef)|.cell x t=>do loadVar t (<- asAddr (a.tmps.getD x undef)):Sem Wan)).run P w=.ok b w ->
   (results fn a.tmps).run P w=.ok (if h:b.toArray.size=1 then b.toArray[0]else .tuple b.toArray) w:=λb c=>by
  unfold results;rw[Sem.run_bind,Array.mapM_eq_mapM_toList];simp only[Sem.run_map]
  erw [c]
  rfl
 unfold jeu at h;split at h;{rename_i r B;obtain⟨v,D,C⟩:=zx3 m r h;simp_all};.rename_i u;obtain⟨ps,k,rfl⟩:=wct.1 h;obtain⟨b,c,j⟩:=zx0 m _ ps k;have g:=d b c;have f:¬b.toArray.size=1:=λe=>by{have q:ps.length=1:=by{rw[j.1];omega};have o:fn.results.toList.length=ps.length:=by{have:∀(l:Wam ResultVar)ps,l.mapM (zkc P H F)=some ps->l.length=ps.length:=by{intro l;induction l with|nil=>{simp}|cons r l G=>intro ps h;simp[ Option.bind_eq_bind]at h;cases g:zkc P H F r with|none=>{grind}|some p=>cases z:l.mapM (zkc P H F)with|none=>{grind}|some y=>grind};grind};rw[q]at o;obtain⟨r,m⟩:=List.length_eq_one_iff.1 o;grind};rw[dif_neg f]at g;exact⟨_,g,.tup _ _ (by simpa using j.1) λi p v s A=>j.2 i p v s X⟩
def zlm(a:List PV):PFrame:=λt=>(a[t]?).getD (.u undef)
def Rel.enter{Z:ZM}{w:Wao}{a:Wam PV}{vs:Wam Wan}(d:GW w)(hz:∀b,Z b->b<w.heap.size)(e:Z.m<=w.heap.size)(f:RpL Z PHeap.empty V0 w a vs){m:Nat}(hm:a.length<=m):
  Rel P { w:=w,Z:=Z,hm:=e,gw:=d } m (zlm a) PHeap.empty V0 { tmps:=vs.toArray++Array.replicate (m-vs.toArray.size) undef,defers:=[] } w:=by
 have h:=f.1;refine⟨HRel.empty (Below.refl _ _) (λi=> .unk _) hz,X,rfl,λt=>?_⟩;unfold zlm;by_cases g:t<a.length
 ·have c:t<vs.length:=U;have:=f.2 t _ _ (wch g) (wch c);rw[wch g];simpa [wdo,Array.getElem?_append,c]using this
 ·have c:¬t<vs.length:=U;rw[wek U];have:(vs.toArray++Array.replicate (m-vs.toArray.size) undef).getD t undef=undef:=by
   rw[wdo,Array.getElem?_append,if_neg U,Array.getElem?_replicate]
   grind
  simp only[this,Option.getD_none];exact .u _
def Env.push(W:Env)(F:PFrame)(a:Act):Env:=
 { W with G:=λi=>if i % 2=0 then F (i / 2)else W.G (i / 2),gv:=λi=>if i % 2=0 then a.tmps.getD (i / 2) undef else W.gv (i / 2) }
end
section
variable{P:Program}{n:Nat}{H:PHeap}{F:PFrame}{d ty:Nat}{pos:String}{af:Array Edge}{g:Option (Nat × Bool)}
variable{t:Nat}{x y:Operand}{k:IntKind}{a b:Int}
def jlc:J5 P .add t x y (.u (.int k a)) (.u (.int k b))=some (.u (.int k (k.wrap (a+b)))):=by simp[J5,PV.val2,eqGuard,binOp,ve,vm,Op.intArith,ofV]
def jjp:J5 P .sub t x y (.u (.int k a)) (.u (.int k b))=some (.u (.int k (k.wrap (a-b)))):=by simp[J5,PV.val2,eqGuard,binOp,ve,vm,Op.intArith,ofV]
def jj4:J5 P .mul t x y (.u (.int k a)) (.u (.int k b))=some (.u (.int k (k.wrap (a*b)))):=by simp[J5,PV.val2,eqGuard,binOp,ve,vm,Op.intArith,ofV]
@[go_sem] theorem jp1:J5 P .eql t x y (.u (.int k a)) (.u (.int k b))=some (.u (.bool (decide (a=b)))):=by simp[J5,PV.val2,eqGuard,binOp,ve,vm,Op.intCmp,ofV];rfl
@[go_sem] theorem jnm:J5 P .neq t x y (.u (.int k a)) (.u (.int k b))=some (.u (.bool (decide (¬a=b)))):=by simp[J5,PV.val2,eqGuard,binOp,ve,vm,Op.intCmp,ofV];rfl
@[go_sem] theorem jne:J5 P .lss t x y (.u (.int k a)) (.u (.int k b))=some (.u (.bool (decide (a<b)))):=by simp[J5,PV.val2,eqGuard,binOp,ve,vm,Op.intCmp,ofV]
@[go_sem] theorem jpe:J5 P .leq t x y (.u (.int k a)) (.u (.int k b))=some (.u (.bool (decide (a<=b)))):=by simp[J5,PV.val2,eqGuard,binOp,ve,vm,Op.intCmp,ofV]
@[go_sem] theorem jn8:J5 P .gtr t x y (.u (.int k a)) (.u (.int k b))=some (.u (.bool (decide (b<a)))):=by simp[J5,PV.val2,eqGuard,binOp,ve,vm,Op.intCmp,ofV]
@[go_sem] theorem jov:J5 P .geq t x y (.u (.int k a)) (.u (.int k b))=some (.u (.bool (decide (b<=a)))):=by simp[J5,PV.val2,eqGuard,binOp,ve,vm,Op.intCmp,ofV]
@[go_sem] theorem unP_not (b:Bool):unP P .not (.u (.bool b))=some (.u (.bool (!b))):=by simp[unP,PV.val2,Op.unary,vm,ofV]
@[go_sem] theorem jju (s u:ByteArray):J5 P .eql t x y (.u (.string s)) (.u (.string u))=some (.u (.bool (s.toList == u.toList))):=Wab
@[go_sem] theorem jlf (s u:ByteArray):J5 P .neq t x y (.u (.string s)) (.u (.string u))=some (.u (.bool (!(s.toList == u.toList)))):=Wab
end
abbrev I(z:Int):PV :=.u (.int .i64 z)
section
variable{P:Program}{W:Env}{n:Nat}{H:PHeap}{F:PFrame}{ops:Array Oper}{o:Oper}{l:List Oper}
def jbs(f:Wat)(args:Array War)(ts:Array Wap):zc0 F ⟨.value (.func f),args,ts⟩=some (f,args.toList.map (evP F)):=by simp[zc0,evP]
end
section
variable{P:Program}{W:Env}{n:Nat}{H:PHeap}{F:PFrame}
def wcb{o:Oper}{t e:Wap}{x y:War}{d ver k m j:Nat}{id:Nm}{B:Was}{cs:Wam PV}{K:PV->Wau->Prop}(ho:o.op=.slice t x none (some y) none)(hd:o.dst=some d)(a0:d<n)(ht:esz P t=some k)(hx:evP F x=.ps id ver)(hl:J6 H id ver=some (e,k,m,cs))(hy:evP F y=.u (.int B (j:Int)))(hj:j<=m)
  (hk:K (.ps id (ver+1)) (H.set id ⟨ver+1,some (.row e k j (cs.take (j*k)))⟩)):PE P W n o F H K:=λV a w M=>by
 obtain⟨e',C,hu,O,rfl⟩:=zgx ht;obtain⟨J,a7⟩:=Jw hl;have Q:a.eval x=V id:=by
  have:=Rp.eval (P:=P) (F:=F) (a:=a) (Z:=W.Z) (H:=H) (V:=V) (w:=w) x λt _=>M.slot t;rw[hx]at this;generalize a.eval x=q at this;cases this with
  |ps _ _ _ b9 hh=>exact hh (by rw[J];rfl) a7
 have R:a.eval y=.int B j:=by
  have:=Rp.eval (P:=P) (F:=F) (a:=a) (Z:=W.Z) (H:=H) (V:=V) (w:=w) y λt _=>M.slot t;rw[hy]at this;generalize a.eval y=q at this;cases this;rfl
 obtain⟨s,r,hR,h1⟩:=M.heap.row id e _ m cs J;have a8:∃D,(execOp a.eval o).run P w=.ok (.value D) w/\w.ownsRow W.w.heap.size e C.size D j (s.take (j*C.size))/\qc D=qc (V id):=by
  have f:(s.take (j*C.size)).length=j*C.size:=by
   rw[wfg,r.1];exact Nat.min_eq_left (weg _ hj)
  rcases r.2 with⟨G,rfl⟩|⟨g,cap,T,G,hg,hh,b1,L,a4,A⟩
  ·have a3:j=0:=U;subst a3;refine⟨.slice none 0 0,?_,⟨f,.inl ⟨rfl,rfl⟩⟩,by rw[G]⟩;have b:=Jn (P:=P) (w:=w) (isS:=true) (len:=0) (cap:=0) (l:=0) (h:=0) (lo:=none) (hi:=some (.int B (0:Nat))) (.inl ⟨rfl,rfl⟩) (.inr ⟨B,_,rfl,Waf,Waf⟩) (wcs _) (wcs _);simp only[execOp,ho];simp[Q,R,G,Instr.sliceAt,Instr.slice,run_underlying hu,b,sizeOf,typeInfo,O]at b⊢
  ·refine⟨.slice (some ⟨g,0,none⟩) j cap,?_,⟨f,.inr ⟨g,cap,T,rfl,hg,hh,U,L,a4,?_⟩⟩,by rw[G];rfl⟩
   ·have b:=Jn (P:=P) (w:=w) (isS:=true) (len:=m) (cap:=cap) (l:=0) (h:=j) (lo:=none) (hi:=some (.int B (j:Nat))) (.inl ⟨rfl,rfl⟩) (.inr ⟨B,_,rfl,Waf,Waf⟩) (wdz _) U;simp only[execOp,ho];simp[Q,R,G,Instr.sliceAt,Instr.slice,run_underlying hu,b,sizeOf,typeInfo,O];by_cases hc:cap=0
    ·simp[hc]
    ·simp[hc,Jr]
   ·rw[<- A,List.take_take,Nat.min_eq_left (weg _ hj)]
 obtain⟨D,N,z,I⟩:=a8;have c:Turn W H V w id ⟨ver+1,some (.row e C.size j (cs.take (j*C.size)))⟩ D w:=by
  refine⟨M.heap.below,wcs _,λ_ _ _=>rfl,λg hg=> .inr ⟨by rw[J];rfl,by rw[<- I];exact hg⟩,.inl (by show(H id).ver<ver+1;omega)⟩
 refine zh N ⟨_,_,zo V id D,hk,?_⟩;rw[hd];refine M.turn c (λbd b=>?_) (some d) (λt ht=>by cases ht;exact a0) ?_
 ·cases b;refine⟨_,z,⟨by simp[hR.1],λi p v S Y=>?_⟩,λu a6=>h1 u (wfd a6)⟩;rw[wes]at S Y;split at S
  ·rename_i hi;rw[if_pos hi]at Y;exact c.rp (hR.2 i p v S Y)
  ·cases S
 ·refine .ps _ _ _ ?_ λ_ _=>?_
  ·simp[PHeap.set]
  ·simp[zo]
end
def zpp(P:Program)(t:TypeId):Option IntKind:=match P.underlying t with|some (.int k)=>some k|_=>none
section
variable{P:Program}{t:TypeId}{x y:Operand}{k:IntKind}{a b:Int}
def zop{t:Wap}(h:zpp P t=some k):P.underlying t=some (.int k):=by unfold zpp at h;grind
@[go_sem] theorem jj0 {s d:Wap}{k b:Was}{n:Int}(g:(zpp P s).isSome=true) (f:zpp P d=some k):jh1 P s d (.u (.int b n))=some (.u (.int k (k.wrap n))):=by obtain⟨h,a⟩:=wdh.1 g;have:(convert s d (.int b n)).val P=some (.int k (k.wrap n)):=by{have c:(underlying s).val P=some (.int h):=by{simp[underlying,program,ve,Sem.val,zop a];rfl};have e:(underlying d).val P=some (.int k):=by{simp[underlying,program,ve,Sem.val,zop f];rfl};simp[convert,ve,c,e,wdv,Conv.intToInt,vm]};simp[jh1,PV.val2,this,ofV]
end
section
variable{P:Program}{W:Env}{n:Nat}{H:PHeap}{F:PFrame}{ops:Array Oper}{o:Oper}{l:List Oper}{K:PFrame → PHeap → Prop}
def Rp.forget{Z:ZM}{V:Nm->Wan}{w:Wao}{t:Wap}{k:Nat}{xs:Wam PV}{v:Wan}(h:Rp Z H V w (.fr t k xs) v):Rp Z H V w (.sl k xs) v:=by
 cases h with
 |fr t k xs v a r o hz A x=>
  have d:=o.1;rcases o.2 with⟨e,n⟩|⟨g,j,s,e,B,m,c,_,_,p⟩
  {have:=wdp n;rw[e,this];exact .nil _ _ _}
  .have y:(xs.flatMap PV.cells).length=a.length:=by{rw[flat_length xs r,d]};have l:∀i q,(xs.flatMap PV.cells)[i]?=some q->∃u,a[i]?=some u/\w.cell? ⟨g,0+i,none⟩=some u/\Rp Z H V w q u:=λi q f=>by{have z:=(wcl.1 f).1;have b:i<a.length:=U;refine⟨a[i],wch b,?_,x i _ _ f (wch b)⟩;have:=o.cells (by rw[e];rfl) i _ (wch b);rwa [Jr]at this};have:=Rp.sl k xs g 0 j (λi=>(a[i]?).getD undef) r c (hz g (by rw[e];rfl)) (wde.1 m).1 (λi q f=>by
    grind) (λi q f=>by
    grind)
   grind
def wb8{Z:ZM}{V:Nm->Wan}{w:Wao}{t:Wap}{k:Nat}:Rp Z H V w (.fr t k []) (.slice none 0 0):=
 .fr t k [] _ [] (λy d=>X) (World.ownsRow_nil _ _ _ _) (λb a=>by cases a) (λu c=>X) (λi p u h=>Waf)
def wbs{t:Wap}{k:Nat}:View H (.u (.slice none 0 0)) (.fr t k []):=λP W V w b v a=>by cases a;exact wb8
def PCall.forget{f:Wat}{a:Wam PV}{t:Wap}{k:Nat}{xs:Wam PV}(h:PCall P f a (· =.fr t k xs)):PCall P f a (· =.sl k xs):=λZ w n b hz m l=>
 (h Z w n b hz m l).mono λe o⟨v,p,c,d,g,i,j⟩=>by
  subst d;refine⟨v,_,c,rfl,?_,i.forget,j⟩;cases g with
  |fr _ _ _ h=>exact .sl _ _ h
inductive NoF:PV->Prop
 |u (v:Value):NoF (.u v)
 |agg (cs:List PV) (h:∀c∈cs,NoF c):NoF (.agg cs)
 |tup (cs:List PV) (h:∀c∈cs,NoF c):NoF (.tup cs)
 |sl (k:Nat) (xs:List PV) (h:∀c∈xs,NoF c):NoF (.sl k xs)
 |rp (cs:List PV) (h:∀c∈cs,NoF c):NoF (.rp cs)
def NoF.cell{p c:PV}(h:NoF p)(a:c∈p.cells):NoF c:=by cases h with|agg cs h=>{exact h c a}|u v=>{simp[PV.cells]at a;subst a;exact .u v}|tup cs h=>{simp[PV.cells]at a;subst a;exact .tup cs h}|sl k b h=>{simp[PV.cells]at a;subst a;exact .sl k b h}|rp cs h=>simp[PV.cells]at a;subst a;exact .rp cs h
def Rp.noF{Z F:ZM}{H D:Wau}{V V':Nm->Wan}{w:Wao}{p:PV}{v:Wan}(h:Rp Z H V w p v)(e:NoF p)(hz:∀b,b<w.heap.size->¬PZ Z H V b->¬PZ F D V' b):Rp F D V' w p v:=by
 induction h with
 |u v=>exact .u v
 |unk v=>cases e
 |agg cs C z h l=>cases e with|agg _ m=>exact .agg cs C z λi p v d n=>l i p v d n (m p (wcq d))
 |tup cs C z h l=>cases e with|tup _ m=>exact .tup cs C z λi p v d n=>l i p v d n (m p (wcq d))
 |nil k a c=>exact .nil k a c
 |sl k M b o c g G s j q d n l=>
  cases e with
  |sl _ _ m=>exact .sl k M b o c g G s (hz b q j) q d λi p r=>l i p r (by
    obtain⟨y,P,A⟩:=wdm.1 (wcq r);exact(m y P).cell A)
 |fr t k M v L G T j d n l=>cases e
 |rp cs b o g j q d n l=>cases e with|rp _ m=>exact .rp cs b o g (hz b q j) q d λi p r=>l i p r (m p (wcq r))
 |ps id x v I h=>cases e
 |qs id B k x v I h=>cases e
 |pp id B x v I h=>cases e
 |fn f a b Y vb N O S q Q R=>cases e
end
end
end Go.Proofs.YtiafpechgjopfaaGreatDoor.L
namespace Go.Proofs.YtiafpechgjopfaaGreatDoor
noncomputable section
set_option maxRecDepth 100000
set_option maxHeartbeats 8000000
set_option linter.unusedVariables false
set_option linter.unusedSimpArgs false
set_option linter.defProp false
open List (replicate range)
open Go.RowKit
section
variable{α:Type}
def Rd(enc:α->Value)(w:World)(v:Value)(l:List α):Prop:=
 ∃(a:Option Addr)(c:Nat),v=.slice a l.length c/\∀(j:Nat)(h:j<l.length),∃b o,a=some ⟨b,o,none⟩/\w.cell? ⟨b,o+j,none⟩=some (enc l[j])
def Ow(enc:α->Value)(e:TypeId)(w:World)(B:Nat)(v:Value)(l:List α):Prop:=w.ownsRow B e 1 v l.length (l.map enc)
variable{enc:α → Value}{e:TypeId}
def Rd_nil(w:Wao)(a:Wal Addr)(c:Nat):Rd enc w (.slice a 0 c) []:=⟨a,c,rfl,λj h=>by cases h⟩
def Rd.shape{w:Wao}{v:Wan}{l:Wam α}(h:Rd enc w v l):∃a c,v=.slice a l.length c:=by obtain⟨a,c,rfl,_⟩:=h;simp
def Ow_nil(w:Wao)(B:Nat):Ow enc e w B (.slice none 0 0) []:=World.ownsRow_nil w B _ 1
end
abbrev RdI:=Rd (Value.int .i64)
abbrev OwI:=Ow (Value.int .i64) 3
open Go
def zeg(l:List Int):List Int:=l.mergeSort λx y=>decide (x<=y)
def Zi(l:List Int):List Int:=Lib.compact l
def jx(l:List Int):Prop:=l.Pairwise (· < ·)
def jaq{a b:Wam Int}(f:jx a)(i:jx b)(h:∀x,x∈a↔x∈b):a=b:=by
 induction a generalizing b with
 |nil=>cases b with|nil=>{rfl}|cons y b=>exact absurd ((h y).2 V) V
 |cons x a k=>
  cases b with
  |nil=>exact absurd ((h x).1 V) V
  |cons y b=>
   obtain⟨g,d⟩:=wdk.1 f;obtain⟨j,e⟩:=wdk.1 i;have c:x=y:=by{have l:=(h x).1 V;have m:=(h y).2 V;grind};subst c;congr 1;refine k d e λz=>⟨λhz=>?_,λhz=>?_⟩
   {grind};grind
def zjf(l:Wam Int):(zeg l).Pairwise (·<=·):=by have h:(l.mergeSort λx y=>decide (x<=y)).Pairwise λa b=>decide (a<=b)=true:=List.pairwise_mergeSort X X l;exact h.imp V
def z4r(l:Wam Int)(x:Int):x∈zeg l↔x∈l:=by simp[zeg]
def zpn(l:Wam Int):(zeg l).length=l.length:=List.length_mergeSort l
def zti(d:Array Int)(b:∀i j,i<j->j<d.size->d[i]!<=d[j]!)(m:Nat)(hm:m<=d.size):
  jx (Lib.compactUpTo d m)/\(∀x∈Lib.compactUpTo d m,∃j,j<m/\x=d[j]!)/\∀j,j<m->d[j]!∈Lib.compactUpTo d m:=by
 induction m with
 |zero=>exact⟨by simp[Lib.compactUpTo,jx],by simp[Lib.compactUpTo],V⟩
 |succ m n=>
  obtain⟨c,k,o⟩:=n U;rw[Lib.compactUpTo_succ];by_cases a:Lib.keeps d m=true
  ·rw[if_pos a];refine⟨?_,?_,?_⟩
   ·unfold jx;rw[wel];refine⟨c,V,?_⟩;intro x g y h;obtain⟨j,f,rfl⟩:=k x g;rw[wcr]at h;subst h;have l:d[m]!≠d[m-1]!:=by
     simp[Lib.keeps]at a;omega
    have p:=b j m f U;have q:=b (m-1) m U U;by_cases e:j=m-1
    ·grind
    ·have:=b j (m-1) U U;omega
   ·grind
   grind
  ·rw[if_neg a,wc1];refine⟨c,λx g=>?_,λj f=>?_⟩
   ·grind
   ·by_cases e:j=m
    ·subst e;simp[Lib.keeps]at a
     grind
    grind
def zn6(l:Wam Int)(k:l.Pairwise (·<=·)):jx (Zi l)/\∀x,x∈Zi l↔x∈l:=by have h:∀i j,i<j->j<l.toArray.size->l.toArray[i]!<=l.toArray[j]!:=by{intro i j b a;simp[wfc]at a;have:=we2.1 k i j U a b;grind};obtain⟨d,f,g⟩:=zti l.toArray h l.length V;refine⟨d,λx=>⟨λc=>?_,λc=>?_⟩⟩;{obtain⟨j,a,e⟩:=f x c;grind};.obtain⟨j,a,rfl⟩:=wei c;have:=g j a;simpa [getElem!_pos,a,Zi,Lib.compact]using this
def zvd(l:Wam Int):(Zi l).length<=l.length:=by unfold Zi Lib.compact Lib.compactUpTo;grind
def RdI.cells{w:Wao}{a:Wal Addr}{c n:Nat}{l:Wam Int}(h:RdI w (.slice a n c) l):n=l.length/\(l=[]\/∃b o,a=some ⟨b,o,none⟩/\∀j,j<l.length->w.cell? ⟨b,o+j,none⟩=some (.int .i64 (l.getD j 0))):=by obtain⟨e,f,d,g⟩:=h;cases d;refine⟨rfl,?_⟩;by_cases h0:l=[];{grind};.have i:=wfi.2 h0;grind
def jkb(v:Wan)(l:Wam Int)(w:Wao)(j:RdI w v l)(n:l.length<=10000000):
  Calls Tryz.prog 33 #[v] w λe h=>∃f,e=.returned f/\OwI h w.heap.size f l/\Below w.heap.size w h:=by
 obtain⟨a,c,rfl⟩:=j.shape;obtain⟨_,h0|⟨b,o,rfl,k⟩⟩:=j.cells
 ·subst h0;cases a with
  |none=>exact(Tryz.slices_Clone_int_nil 0 c w).mono λe h⟨g,m⟩=>by subst m;exact⟨_,g,Ow_nil _ _,Below.refl _ _⟩
  |some a=>exact(Tryz.slices_Clone_int_zero a c w).mono λe h⟨f,g,d,_,i⟩=>⟨f,g,d,i⟩
 ·exact(Tryz.slices_Clone_int b o l.length c l w (wcs _) U k).mono λe h⟨f,g,d,_,i⟩=>⟨f,g,by rw[wc8]at d;trivial,i⟩
open Go Go.RowKit L
def L.mixed:Tryz.prog.follows .mixedOrders=true:=K
def slI(l:List Int):PV :=.sl 1 (l.map I)
def rd_of{α:Type}{f:α->PV}{enc:α->Wan}(i:∀x,f x=.u (enc x)){Z:ZM}{w:Wao}{l:Wam α}{v:Wan}(h:Rp Z PHeap.empty V0 w (.sl 1 (l.map f)) v):Rd enc w v l:=by have e:(l.map f).flatMap PV.cells=l.map f:=by{clear h;induction l with|nil=>{rfl}|cons x l s=>rw[wc7,wdj,s,i x];rfl};generalize n:l.map f=t at h e;cases h with|nil k a c=>{have:=List.map_eq_nil_iff.1 n;subst this;exact Rd_nil _ _ _}|sl k t b o c g A m hz y p r=>subst n;refine⟨_,c,V,λj z=>⟨b,o,rfl,?_⟩⟩;have d:((l.map f).flatMap PV.cells)[j]?=some (f l[j]):=X;rw[p j _ d];have:=r j _ d;rw[i]at this;generalize g j=q at this;cases this;rfl
def rpu{Z:ZM}{H:Wau}{V:Nm->Wan}{w:Wao}{u v:Wan}(h:Rp Z H V w (.u u) v):v=u:=by cases h;rfl
def z72{Z:ZM}{H:Wau}{V:Nm->Wan}{w:Wao}{p:PV}{vs:Wam Wan}(h:RpL Z H V w [p] vs):∃v,vs=[v]/\Rp Z H V w p v:=by
 have a:=h.1;match vs,a with
 |[v],_=>exact⟨v,rfl,h.2 0 p v rfl rfl⟩
def cells1{α:Type}{a:α->PV}(h:∀x,(a x).cells=[a x])(l:Wam α):(l.map a).flatMap PV.cells=l.map a:=by induction l with|nil=>{rfl}|cons m c b=>grind
end
end Go.Proofs.YtiafpechgjopfaaGreatDoor
namespace Go.Proofs.YtiafpechgjopfaaGreatDoor.L
noncomputable section
set_option maxRecDepth 100000
set_option maxHeartbeats 8000000
set_option linter.unusedVariables false
set_option linter.unusedSimpArgs false
set_option linter.defProp false
open List (replicate range)
open Go Go.RowKit
section
variable{P:Program}{W:Env}{n:Nat}{H:PHeap}{F:PFrame}{ops:Array Oper}{o:Oper}{l:List Oper}
def js5(Q:Exit->PFrame->PHeap->Prop):Exit->PFrame->PHeap->Prop
 |.goto _,_,_=>False
 |e,F,H=>Q e F H
def PC.scope{c:Code}{Q:Exit->Wav->Wau->Prop}(h:PC P W n c F H (js5 Q)):PC P W n (.scope c) F H Q:=λV a w k g d=>
 wp_scope_straight (h V a w _ g λe i j l m o f b=>by
  cases e<;>first|exact d _ _ _ _ _ _ f b|assumption)
def PC.label{i:Nat}{Q:Exit->Wav->Wau->Prop}(h:Q .normal F H):PC P W n (.label i) F H Q:=λV a w d c b=>wp_label (b _ _ _ _ _ _ h c)
end
section
variable{P:Program}{H:PHeap}{F:PFrame}{d ty:Nat}{pos:String}{af:Array Edge}{g:Option (Nat × Bool)}{x y:Operand}{t t' : Nat}{k:IntKind}{a b:Int}
def ztt(P:Program)(t:Nat):Operand->Bool
 |.const (.slice none 0 0)=>false
 |.const (.pointer none)=>false
 |_=>true
def zo0{op:BinOp}(a:ztt P t y=true):jkn P H F op t x y=J5 P op t x y (evP F x) (evP F y):=by unfold jkn;split;{trivial};{simp[ztt]at a};rfl
def b_eqB(p q:Bool)(b:P.underlying t=some .bool):J5 P .eql t x y (.u (.bool p)) (.u (.bool q))=some (.u (.bool (p == q))):=by have a:(Op.equal t (.bool p) (.bool q)).val P=some (p == q):=by{unfold Op.equal Op.maxDepth Op.equalIn underlying;simp[ve,program,Sem.val,b,Option.bind,vm]};simp[J5,PV.val2,eqGuard,binOp,ve,vm,zxj,a,ofV]
def b_neB(p q:Bool)(b:P.underlying t=some .bool):J5 P .neq t x y (.u (.bool p)) (.u (.bool q))=some (.u (.bool (p != q))):=by have a:(Op.equal t (.bool p) (.bool q)).val P=some (p == q):=by{unfold Op.equal Op.maxDepth Op.equalIn underlying;simp[ve,program,Sem.val,b,Option.bind,vm]};simp[J5,PV.val2,eqGuard,binOp,ve,vm,zxj,a,ofV,bne]
end
end
end Go.Proofs.YtiafpechgjopfaaGreatDoor.L
namespace Go.Proofs.YtiafpechgjopfaaGreatDoor
noncomputable section
set_option maxRecDepth 100000
set_option maxHeartbeats 8000000
set_option linter.unusedVariables false
set_option linter.unusedSimpArgs false
set_option linter.defProp false
open List (replicate range)
open Go Go.RowKit L
abbrev Arr(n:Nat)(α:Type):={l:List α // l.length=n}
section
variable{P:Program}{W:Env}{n:Nat}{H:PHeap}{F:PFrame}{ops:Array Oper}{o:Oper}{l:List Oper}{K:PFrame → PHeap → Prop}
variable{d ty:Nat}{pos:String}{af:Array Edge}{g:Option (Nat × Bool)}{x y:Operand}{t t' : Nat}
def flat1{α:Type}{a:α->PV}(h:∀x,(a x).cells=[a x])(xs:Wam α):(xs.map a).flatMap PV.cells=xs.map a:=cells1 h xs
end
section
variable{P:Program}{W:Env}{n:Nat}{H:PHeap}{F:PFrame}{ops:Array Oper}{o:Oper}{l:List Oper}{K:PFrame → PHeap → Prop}
variable{d ty:Nat}{pos:String}{af:Array Edge}{g:Option (Nat × Bool)}{x y:Operand}{t t' : Nat}
def wbg{V:Nm->Wan}{w:Wao}(o:HRel P W H V w){id:Nm}{ver e k m:Nat}{cs:Wam PV}(p:H id=⟨ver,some (.row e k m cs)⟩):
  (m=0/\V id=.slice none 0 0)\/∃b a c,V id=.slice (some ⟨b,0,none⟩) m a/\W.w.heap.size<=b/\w.heap[b]?=some (.cells c e (0,0))/\m<=a/\a<=maxLen/\c.size=a*k:=by
 obtain⟨f,n,_⟩:=o.row id e k m cs X;rcases n.2 with⟨d,h0⟩|⟨b,a,c,d,g,h,i,j,l,_⟩
 ·grind
 ·exact .inr ⟨b,a,c,d,g,h,i,j,l⟩
def wbb{lo:War}{id:Nm}{ver e k m:Nat}{p:Was}{z:Int}{cs:Wam PV}{o:Oper}(l:o.op=.slice t x (some lo) none none)(G:esz P t=some k)(L:evP F x=.ps id ver)(C:H id=⟨ver,some (.row e k m cs)⟩)(M:evP F lo=.u (.int p z))(h0:0<=z)(hz:z.toNat<=m):PQ P W o F H (.qs id z.toNat k ver):=
 waf λV a w D A=>by
  obtain⟨O,N,y,g,rfl⟩:=zgx G;have h:=A x (by rw[l];simp[Op.operands]);have i:=A lo (by rw[l];simp[Op.operands]);rw[L]at h;rw[M]at i;have r:a.eval x=V id:=by
   generalize a.eval x=q at h;cases h with
   |ps _ _ _ I Q=>grind
  have s:a.eval lo=.int p z:=by generalize a.eval lo=q at i;cases i;rfl
  rcases wbg D C with⟨rfl,f⟩|⟨b,c,B,f,_,_,v,_,_⟩
  ·have n:z.toNat=0:=U;have d:=Jn (P:=P) (w:=w) (isS:=true) (.inr ⟨p,z,rfl,h0,n⟩) (.inl ⟨rfl,rfl⟩) (wcs _) (wcs _);refine⟨.slice none 0 0,?_,?_⟩
   ·simp[execOp,l];simp[r,s,f,Instr.sliceAt,Instr.slice,run_underlying y,d,sizeOf,typeInfo,g]
   ·rw[n];exact .qs id 0 _ ver _ X λ_ _=>⟨none,0,0,none,f,rfl,wcs _,wcs _,.inl ⟨rfl,rfl⟩⟩
  ·have d:=Jn (P:=P) (w:=w) (isS:=true) (.inr ⟨p,z,rfl,h0,rfl⟩) (.inl ⟨rfl,rfl⟩) hz v;by_cases j:c=z.toNat
   ·refine⟨.slice (some ⟨b,0,none⟩) (m-z.toNat) (c-z.toNat),?_,(.qs id _ _ ver _ X λ_ _=>⟨_,m,c,_,f,rfl,hz,v,.inr ⟨b,0,rfl,rfl,.inr j⟩⟩)⟩
    ·simp[execOp,l];simp[r,s,f,Instr.sliceAt,Instr.slice,run_underlying y,d,sizeOf,typeInfo,g];omega
   ·refine⟨.slice (some ⟨b,z.toNat*N.size,none⟩) (m-z.toNat) (c-z.toNat),?_,(.qs id _ _ ver _ X λ_ _=>⟨_,m,c,_,f,rfl,hz,v,.inr ⟨b,_,rfl,rfl,.inl rfl⟩⟩)⟩
    ·simp[execOp,l];simp[r,s,f,Instr.sliceAt,Instr.slice,run_underlying y,d,sizeOf,typeInfo,g,j,Jr]
end
def small7{α:Type}(xs:List α)(ys:List α):Option (List α):=if xs.length<=10000000 then some ys else none
def zli{α:Type}{xs ys a:Wam α}(h:small7 xs ys=some a):xs.length<=10000000/\a=ys:=by unfold small7 at h;grind
section
variable{P:Program}{W:Env}{n:Nat}{H:PHeap}{F:PFrame}{ops:Array Oper}{o:Oper}{l:List Oper}{K:PFrame → PHeap → Prop}{x:Operand}{ts:Array TypeId}
def us_of{Z:ZM}{V:Nm->Wan}{w:Wao}{xs:Wam Int}{a:Wam Wan}(h:RpL Z H V w (xs.map I) a):a=xs.map (.int .i64):=by apply wd1;intro i;have d:=h.1;simp[wc0]at d;by_cases e:i<xs.length;{have b:(xs.map I)[i]?=some (I xs[i]):=Waf;have c:a[i]?=some a[i]:=wch U;have:=rpu (h.2 i _ _ b c);grind};grind
def jrg{V:Nm->Wan}{w:Wao}(xs:Wam Int):RpL W.Z H V w (xs.map I) (xs.map (.int .i64)):=by have:=RpL.us (W:=W) (H:=H) (V:=V) (w:=w) (xs.map (Value.int .i64));rw[wd3]at this;trivial
end
def jrj(v:Wan)(l:Wam Int)(B:Nat)(w:Wao)(p:w.ownsRow B 3 1 v l.length (l.map (.int .i64)))(z:l.length<=10000000):
  Calls Tryz.prog 243 #[v] w λe b=>e=.returned (.tuple #[])/\b.ownsRow B 3 1 v l.length ((zeg l).map (.int .i64))/\w.grownBy b v.ownBlock:=by
 have a:(zeg l).length=l.length:=List.length_mergeSort l;rcases p.2 with⟨rfl,h0⟩|⟨g,c,q,rfl,u,o,j,d,f,k⟩
 ·have r:=wdp h0;subst r;exact(Tryz.slices_Sort_int_none none 0 w).mono λe b⟨h,x⟩=>by subst x;exact⟨h,X,⟨rfl,rfl,rfl,wcs _,λ_ _ _=>rfl⟩⟩
 ·have i:=(wde.1 o).1;obtain⟨y,m,s,_,_,_,_,_,t⟩:=Lib.holds_of_ownsRow p V;cases s;refine(Tryz.slices_Sort_int g 0 c l w t i U).mono ?_;rintro e b ⟨h,n,A,rfl⟩;exact⟨h,ownsRow_sortedI a u o j d f,grownBy_sortedI _⟩
def ja0(v:Wan)(l:Wam Int)(B:Nat)(w:Wao)(n:w.ownsRow B 3 1 v l.length (l.map (.int .i64)))(F:l.length<=10000000):
  Calls Tryz.prog 244 #[v] w λe b=>∃o,e=.returned o/\b.ownsRow B 3 1 o (Zi l).length ((Zi l).map (.int .i64))/\w.grownBy b v.ownBlock/\∀g,qc o=some g->qc v=some g:=by
 have f:=Lib.compact_length_le l;rcases n.2 with⟨rfl,h0⟩|⟨g,c,r,rfl,C,a,i,x,y,m⟩
 ·have s:=wdp h0;subst s;exact(Tryz.slices_Compact_int_empty none 0 w).mono λe b⟨d,z⟩=>by subst z;exact⟨_,d,World.ownsRow_nil _ _ _ _,⟨rfl,rfl,rfl,wcs _,λ_ _ _=>rfl⟩,λg a=>a⟩
 ·obtain⟨A,p,t,_,_,_,_,_,u⟩:=Lib.holds_of_ownsRow n V;cases t;refine(Tryz.slices_Compact_int g 0 c l w u U i).mono ?_;rintro e b ⟨d,q,rfl⟩;refine⟨_,d,?_,?_,λg a=>a⟩
  ·have h:=Lib.ownsRow_putRow (q:=q) (ys:=Lib.compact l++replicate (l.length-(Lib.compact l).length) 0) n X f;rw[List.take_left]at h;exact h
  ·refine⟨rfl,rfl,rfl,V,λk D j=>?_⟩;have:g≠k:=λe=>j (by rw[<- e];rfl);simp[Sort.putRow,Sort.mapBlock,Sort.ahead,Array.getElem?_modify,this]
section
variable{W:Env}{n:Nat}{H:PHeap}{F:PFrame}{ops:Array Oper}{o:Oper}{l:List Oper}{K:PFrame → PHeap → Prop}{x:Operand}{ts:Array TypeId}
def wbc{f:Wat}{id:Nm}{ver d:Nat}{xs ys:Wam Int}{back:Bool}{k:PV->Wau->Prop}(ho:o.op=.call ⟨.value (.func f),#[x],ts⟩)(N:Zc n o)(hf:Qi Tryz.prog f=true)(hx:evP F x=.ps id ver)(Z:H id=⟨ver,some (.row 3 1 xs.length (xs.map I))⟩)
  (hc:∀v B w,w.ownsRow B 3 1 v xs.length (xs.map (.int .i64))->Calls Tryz.prog f #[v] w λe s=>∃r j,e=.returned r/\s.ownsRow B 3 1 j ys.length (ys.map (.int .i64))/\w.grownBy s v.ownBlock/\(∀g,qc j=some g->qc v=some g)/\(if back=true then r=j else j=v/\r=.tuple #[]))
  (l:if back=true then k (.ps id (ver+1)) (H.set id ⟨ver+1,some (.row 3 1 ys.length (ys.map I))⟩)else k (.u (.tuple #[])) (H.set id ⟨ver,some (.row 3 1 ys.length (ys.map I))⟩)):PE Tryz.prog W n o F H k:=λV a w m=>by
 have M:(H id).body=some (.row 3 1 xs.length (xs.map I)):=X;have p:(H id).ver=ver:=by rw[Z]
 obtain⟨Q,c,J,h1⟩:=m.heap.row id _ _ _ _ M;have i:=us_of J;subst i;have O:zc0 F ⟨.value (.func f),#[x],ts⟩=some (f,[.ps id ver]):=by rw[jbs];simp[hx]
 obtain⟨vs,he,A⟩:=zbq ho O hf λx b2=>Rp.eval (P:=Tryz.prog) x λt O=>m.slot t;obtain⟨v,rfl,hv⟩:=z72 A;have G:v=V id:=by
  cases hv with
  |ps _ _ _ b0 hh=>exact hh (by rw[M];rfl) p
 subst G;have a8:=zac c;refine zjb he ((hc (V id) _ w c).mono λe s⟨r,j,T,L,y,Y,q⟩=>⟨r,T,?_⟩);have b:∀nv,(H id).ver<nv\/(nv=(H id).ver/\j=V id)->Turn W H V w id ⟨nv,some (.row 3 1 ys.length (ys.map I))⟩ j s:=λnv a6=>by
  refine⟨m.heap.below.grown y m.heap.below.size λkk l=>(c.lt kk l).1,y.size,λR C hn=>y.block R C λe'=>hn ⟨X,X⟩,λg hg=> .inr ⟨X,Y g hg⟩,?_⟩
  grind
 cases back
 ·simp[wdr,if_false]at q l;obtain⟨rfl,rfl⟩:=q;refine⟨_,_,zo V id (V id),l,m.turn (b ver (.inr ⟨p.symm,rfl⟩)) (λS h=>?_) o.dst N (.u _)⟩;cases h;exact⟨_,L,jrg ys,λu D=>by obtain⟨z,_,rfl⟩:=wc6.1 D;rfl⟩
 ·simp[if_true]at q l;subst q;refine⟨_,_,zo V id r,l,m.turn (b (ver+1) (.inl U)) (λS h=>?_) o.dst N ?_⟩
  ·cases h;exact⟨_,L,jrg ys,λu D=>by obtain⟨z,_,rfl⟩:=wc6.1 D;rfl⟩
  ·refine .ps _ _ _ ?_ λ_ _=>?_
   ·simp[PHeap.set]
   ·simp[zo]
def jly{xs:Wam Int}(d:xs.length<=10000000):jbe Tryz.prog 33 [slI xs] 3 1 (λn us=>n=xs.length/\us=xs.map (.int .i64)):=λw j h=>by
 obtain⟨v,rfl,g⟩:=z72 h;exact(jkb v xs w (rd_of (λ_=>rfl) g) d).mono λe k⟨i,a,b,c⟩=>⟨i,_,_,a,⟨rfl,rfl⟩,b,λu f=>by obtain⟨z,_,rfl⟩:=wc6.1 f;rfl,c⟩
end
end
end Go.Proofs.YtiafpechgjopfaaGreatDoor
namespace Go.Proofs.YtiafpechgjopfaaGreatDoor.L
noncomputable section
set_option maxRecDepth 100000
set_option maxHeartbeats 8000000
set_option linter.unusedVariables false
set_option linter.unusedSimpArgs false
set_option linter.defProp false
open List (replicate range)
open Go Go.RowKit
structure zn7{α:Type}(P:Program)(key:TypeId)(kv:α->Value)(eqb:α->α->Bool):Prop where
 chk:∀(b:Bool)(k:α)(w:World),(Instr.checkKey b 10000 key (kv k)).run P w=.ok () w
 und:∃d,P.underlying key=some d/\∀k k',Instr.sameNow d (kv k) (kv k')=none\/Instr.sameNow d (kv k) (kv k')=some (eqb k k')
 eq:∀(k k':α)(w:World),(Op.equal key (kv k) (kv k')).run P w=.ok (eqb k k') w
 beq:∀k k',eqb k k'=true->k=k'
 bits:∀k,Instr.sameBits 10000 (kv k) (kv k)=true
def zbw{α β:Type}(eqb:α->α->Bool)(k:α):List (α×β)->Nat->Option (Nat×β)
 |[],_=>none
 |e::a,i=>if eqb k e.1 then some (i,e.2)else zbw eqb k a (i+1)
def z6p{α β:Type}(eqb:α->α->Bool)(l:List (α×β))(k:α):Option β:=(zbw eqb k l 0).map (·.2)
def jto{α β:Type}(eqb:α->α->Bool)(l:List (α×β))(k:α)(v:β):List (α×β):=
 match zbw eqb k l 0 with
 |some (i,_)=>l.modify i λe=>(k,v)
 |none=>l++[(k,v)]
section
variable{P:Program}{α β:Type}{key elem:TypeId}{kv:α → Value}{vv:β → Value}{eqb:α → α → Bool}
def z5t{d:TypeDesc}(f:∀k b,Instr.sameNow d (kv k) (kv b)=none\/Instr.sameNow d (kv k) (kv b)=some (eqb k b))(k:α):∀a(l:Wam (α×β))(i:Nat),a.map (λe=>(e.key,e.val))=l.map (λe=>(kv e.1,vv e.2)) ->
  Instr.findNow d (kv k) a i=none\/Instr.findNow d (kv k) a i=some ((zbw eqb k l i).map λr=>(r.1,vv r.2))
 |[],[],i,_ => .inr rfl
 |e::a,x::l,i,h=>by simp[wc7,wfk,wez]at h;obtain⟨⟨g,j⟩,m⟩:=h;unfold Instr.findNow zbw;rw[g,j];rcases f k x.1 with c|c<;>rw[c];{simp};.cases eqb k x.1;{exact z5t f k a l (i+1) m};simp
def zri(b:∀k c w,(Op.equal key (kv k) (kv c)).run P w=.ok (eqb k c) w)(k:α)(w:Wao):∀a(l:Wam (α×β))(i:Nat),a.map (λe=>(e.key,e.val))=l.map (λe=>(kv e.1,vv e.2)) ->
  (Instr.findAsking key (kv k) a i).run P w=.ok ((zbw eqb k l i).map λr=>(r.1,vv r.2)) w
 |[],[],i,_=>rfl
 |e::a,x::l,i,h=>by simp[wc7,wfk,wez]at h;obtain⟨⟨d,f⟩,g⟩:=h;unfold Instr.findAsking zbw;rw[d,f];simp[Sem.run_bind,b,Result.andThen_ok];cases eqb k x.1;{simpa using zri b k w a l (i+1) g};rfl
def zh5(K:zn7 P key kv eqb)(k:α)(w:Wao){es:Wam MapEntry}{l:Wam (α×β)}(h:es.map (λe=>(e.key,e.val))=l.map (λe=>(kv e.1,vv e.2))):
  (Instr.findKey key (kv k) es).run P w=.ok ((zbw eqb k l 0).map λr=>(r.1,vv r.2)) w:=by
 obtain⟨d,b,c⟩:=K.und;unfold Instr.findKey;rw[Sem.run_bind,run_underlying b,Result.andThen_ok];rcases z5t c k es l 0 h with a|a
 ·rw[a];exact zri K.eq k w es l 0 h
 simp_all
def z6r(K:zn7 P key kv eqb){t:Wap}(j:P.underlying t=some (.map key elem)){d:β}(hz:∀w,(zeroValue elem).run P w=.ok (vv d) w)(k:α){w:Wao}{b:Nat}{arr:Array MapEntry}{a:Nat}{l:Wam (α×β)}(g:w.heap[b]?=some (.map arr a))(h:arr.toList.map (λe=>(e.key,e.val))=l.map (λe=>(kv e.1,vv e.2)))(ok:Bool):
  (Instr.lookup t (.map (some b)) (kv k) ok).run P w=.ok (if ok then .tuple #[vv ((z6p eqb l k).getD d),.bool (z6p eqb l k).isSome]else vv ((z6p eqb l k).getD d)) w:=by
 have c:=zh5 K k w h;have f:=K.chk arr.isEmpty k w;unfold z6p;cases i:zbw eqb k l 0 with
 |none=>rw[i]at c;simp[Instr.lookup,run_underlying j,MapKept.run_getObj_map g,f,c,hz]
 |some r=>rw[i]at c;simp[Instr.lookup,run_underlying j,MapKept.run_getObj_map g,f,c]
def jaa{eqb:α->α->Bool}{k:α}:∀{l:Wam (α×β)}{i:Nat}{r:Nat×β},zbw eqb k l i=some r->∃e,l[r.1-i]?=some e/\i<=r.1/\eqb k e.1=true
 |[],i,r,h=>by cases h
 |e::b,i,r,h=>by unfold zbw at h;split at h;{grind};.obtain⟨a,c,d,f⟩:=jaa h;grind
def zwi(K:zn7 P key kv eqb){t:Wap}(z:P.underlying t=some (.map key elem))(k:α)(v:β){w:Wao}{b:Nat}{arr:Array MapEntry}{a:Nat}{l:Wam (α×β)}(n:w.heap[b]?=some (.map arr a))(h:arr.toList.map (λe=>(e.key,e.val))=l.map (λe=>(kv e.1,vv e.2))):
  ∃d c,(Instr.mapUpdate t (.map (some b)) (kv k) (vv v)).run P w=.ok () { w with heap:=w.heap.setIfInBounds b (.map d c) }/\d.toList.map (λe=>(e.key,e.val))=(jto eqb l k v).map (λe=>(kv e.1,vv e.2)):=by
 have m:=zh5 K k w h;have u:=K.chk false k w;unfold jto;cases p:zbw eqb k l 0 with
 |none=>
  rw[p]at m;refine⟨arr.push { key:=kv k,val:=vv v,born:=a },a+1,by simp[Instr.mapUpdate,run_underlying z,MapKept.run_getObj_map n,u,m,MapKept.run_setObj_map _ n],?_⟩
  grind
 |some r=>
  obtain⟨i,x⟩:=r;rw[p]at m;obtain⟨e,y,_,B⟩:=jaa p;simp[Nat.sub_zero]at y;have q:=K.beq _ _ B;have o:arr.toList[i]?.map (λe=>(e.key,e.val))=some (kv e.1,vv e.2):=by
   rw[<- wcv,h,wcv,y];rfl
  obtain⟨A,C,f⟩:=wct.1 o;simp[wez]at f;have g:arr[i]?=some A:=X;refine⟨arr.modify i λe=>{ e with key:=kv k,val:=vv v },a,?_,?_⟩
  ·have s:(Instr.keyThatStays (kv e.1) (kv k)).run P w=.ok (kv k) w:=by
    rw[<- q];simp[Instr.keyThatStays,K.bits]
   simp[Instr.mapUpdate,run_underlying z,MapKept.run_getObj_map n,u,m,g,f.1,s,MapKept.run_setObj_map _ n]
  ·apply wd1;intro j;have D:(arr.toList[j]?).map (λe=>(e.key,e.val))=(l[j]?).map (λe=>(kv e.1,vv e.2)):=by rw[<- wcv,<- wcv,h]
   grind
end
section
variable{P:Program}
def zfc{d:Nat}{t:Wap}{D:TypeDesc}{x y:Wan}{r:Bool}(a:P.underlying t=some D)(h:Instr.sameNow D x y=some r)(w:Wao):(Op.equalIn (d+1) t x y).run P w=.ok r w:=by unfold Instr.sameNow at h;split at h;{split at h;{rename_i b;cases h;subst b;simp[Op.equalIn,run_underlying a]};grind};{cases h;simp[Op.equalIn,run_underlying a]};{cases h;simp[Op.equalIn,run_underlying a]};grind
def zsz{D:TypeDesc}{x y:Wan}{r:Bool}(h:Instr.sameNow D x y=some r):zty D=false:=by unfold Instr.sameNow at h;split at h<;>first|rfl|grind
def zd0(P:Program)(xs ys:Array Value)(f:Field):Option Bool:=
 if f.name = "_" then none else
 match P.underlying f.type,xs[f.offset]?,ys[f.offset]? with
 |some d,some x,some y=>Instr.sameNow d x y
 |_,_,_=>none
def eqS(P:Program)(t:TypeId)(xs ys:Array Value):Option (List Bool):=
 match P.underlying t with
 |some (.struct a)=>if P.stoodInHeld t then none else a.toList.mapM (zd0 P xs ys)
 |_=>none
def zdt{t:Wap}{D:TypeDesc}(a:P.underlying t=some D)(b:zty D=false){cs:Array Wan}{i:Nat}{v:Wan}(h:cs[i]?=some v)(w:Wao):(part t cs i).run P w=.ok v w:=by unfold part;rw[Sem.run_bind,z5d a];simp_all
def zq3 {xs ys : Array Wan} {f : Field} {r : Bool} (h : zd0 P xs ys f = some r) : f.name ≠ "_" ∧ ∃ D x y, P.underlying f.type = some D ∧ zty D = false ∧ xs[f.offset]? = some x ∧ ys[f.offset]? = some y ∧ Instr.sameNow D x y = some r := by unfold zd0 at h;split at h;{grind};.rename_i d;refine⟨d,?_⟩;split at h;{rename_i D x y a b c;exact⟨D,x,y,a,zsz h,b,c,h⟩};grind
def zqv{xs ys:Array Wan}{d:Nat}(w:Wao):∀a b,a.mapM (zd0 P xs ys)=some b->(Op.eqFields (d+1) xs ys a).run P w=.ok (b.all id) w
 |[],b,h=>by simp at h;subst h;rfl
 |f::a,b,h=>by rw[List.mapM_cons]at h;cases e:zd0 P xs ys f with|none=>{grind}|some r=>rw[e]at h;cases g:a.mapM (zd0 P xs ys)with|none=>{grind}|some n=>rw[g]at h;cases h;obtain⟨j,D,x,y,c,i,l,m,k⟩:=zq3 e;unfold Op.eqFields;rw[if_pos j];simp[Sem.run_bind,zdt c i l,zdt c i m,zfc c k,Result.andThen_ok];cases r;{simp};.simpa using zqv w a n g
def z1e{t:Wap}{xs ys:Array Wan}{es:Wam Bool}(h:eqS P t xs ys=some es):∃a,P.underlying t=some (.struct a)/\P.stoodInHeld t=false/\a.toList.mapM (zd0 P xs ys)=some es:=by unfold eqS at h;grind
def jhe{t:Wap}{xs ys:Array Wan}{es:Wam Bool}(h:eqS P t xs ys=some es)(w:Wao)(d:Nat):(Op.equalIn (d+2) t (.agg xs) (.agg ys)).run P w=.ok (es.all id) w:=by obtain⟨a,f,e,b⟩:=z1e h;have c:P.fieldsOf t=a:=by{unfold Program.fieldsOf;grind};rw[run_equalIn_struct w (d+1) t xs ys X e,c];exact zqv w _ _ b
def jxb{α:Type}{t:Wap}{kc:α->Array Wan}{eb:α->α->Wam Bool}(i:α)(h:∀a b,eqS P t (kc a) (kc b)=some (eb a b))(s:∀a b,(eb a b).all id=true->a=b)(c:∀a,Instr.sameBits 10000 (.agg (kc a)) (.agg (kc a))=true):zn7 P t (λa=> .agg (kc a)) (λa b=>(eb a b).all id) where
 chk:=λb k w=>by
  obtain⟨q,e,F,v⟩:=z1e (h k k);unfold Instr.checkKey;simp[Sem.run_bind,run_underlying e,Result.andThen_ok];rw[<- Array.forIn_toList];have g : ∀ (l : Wam Field) j, l.mapM (zd0 P (kc k) (kc k)) = some j → ∀ n, (forIn l PUnit.unit fun f (_ : PUnit) => (if f.name ≠ "_" then do Instr.checkKey b (n + 1) f.type (← part f.type (kc k) f.offset); pure (ForInStep.yield PUnit.unit) else pure (ForInStep.yield PUnit.unit) : Sem (ForInStep PUnit))).run P w = .ok PUnit.unit w := by
   intro l;induction l with
   |nil=>simp
   |cons f l H=>
    intro j p n;rw[List.mapM_cons]at p;cases m:zd0 P (kc k) (kc k) f with
    |none=>grind
    |some r=>
     rw[m]at p;cases C:l.mapM (zd0 P (kc k) (kc k))with
     |none=>grind
     |some L=>
      obtain⟨z,D,x,y,o,A,B,G,d⟩:=zq3 m;have u:(Instr.checkKey b (n+1) f.type x).run P w=.ok () w:=by
       unfold Instr.checkKey;simp[Sem.run_bind,run_underlying o,Result.andThen_ok];unfold Instr.sameNow at d;split at d<;>first|rfl|grind
      rw[List.forIn_cons,if_pos z];simp[Sem.run_bind,zdt o A B,u,Result.andThen_ok,Sem.run_pure];simp_all
  have:=g _ _ v 9998;simp_all
 und:=by
  obtain⟨q,e,_,_⟩:=z1e (h i i);exact⟨_,e,λk I=> .inl rfl⟩
 eq:=λa b w=>jhe (h a b) w 9998
 beq:=s
 bits:=c
def zxs(c:Nat->Bool)(body:Nat->Wal Bool×Unit->Sem (ForInStep (Wal Bool×Unit)))(w:Wao):∀(l:Wam Nat),(∀i∈l,(body i (none,())).run P w=.ok (if c i then .yield (none,())else .done (some false,())) w) ->
  (forIn l ((none,()):Wal Bool×Unit) body).run P w=.ok (if l.all c then none else some false,()) w
 |[],_=>V
 |i::l,h=>by rw[List.forIn_cons,Sem.run_bind,h i V];cases a:c i;{simp[a]};.simpa [a]using zxs c body w l λj b=>h j X
def jwd{t e:Wap}{n:Nat}{D:TypeDesc}{xs ys:Array Wan}{c:Nat->Bool}(l:P.underlying t=some (.array n e))(b:P.underlying e=some D)(k:∀w,(sizeOf e).run P w=.ok 1 w)(h:∀i,i<n->∃x y,xs[i]?=some x/\ys[i]?=some y/\Instr.sameNow D x y=some (c i))(w:Wao)(d:Nat):
  (Op.equalIn (d+2) t (.agg xs) (.agg ys)).run P w=.ok ((range n).all c) w:=by
 rw[Op.equalIn];simp only[Sem.run_bind,run_underlying l,Result.andThen_ok,k];rw[Std.Legacy.Range.forIn_eq_forIn_range'];have f:List.range' ([:n]:Std.Legacy.Range).start ([:n]:Std.Legacy.Range).size ([:n]:Std.Legacy.Range).step=range n:=by
  simp[Std.Legacy.Range.size,List.range_eq_range']
 rw[f];have g:=zxs (P:=P) c (λi r=>do
   if(!(<- Op.equalIn (d+1) e (<- part e xs (i*1)) (<- part e ys (i*1))))=true then pure (ForInStep.done (some false,()))else pure (ForInStep.yield (none,()))) w (range n) λi j=>by
  obtain⟨x,y,m,o,a⟩:=h i (weq.1 j);simp[Nat.mul_one,Sem.run_bind,zdt b (zsz a) m,zdt b (zsz a) o,zfc b a,Result.andThen_ok];cases c i<;>simp
 rw[g];cases(range n).all c<;>simp
end
end
end Go.Proofs.YtiafpechgjopfaaGreatDoor.L
namespace Go.Proofs.YtiafpechgjopfaaGreatDoor
noncomputable section
set_option maxRecDepth 100000
set_option maxHeartbeats 8000000
set_option linter.unusedVariables false
set_option linter.unusedSimpArgs false
set_option linter.defProp false
open List (replicate range)
open Go Go.RowKit L
section
variable{P:Program}{W:Env}{n:Nat}{H:PHeap}{F:PFrame}{ops:Array Oper}{o:Oper}{l:List Oper}{K:PFrame → PHeap → Prop}
variable{d ty t' : Nat}{pos:String}{af:Array Edge}{g:Option (Nat × Bool)}{x y:Operand}{t:Nat}
def jki{a b:Wam Int}{n:Nat}(c:a.length=n)(d:b.length=n):((range n).all λi=>a.getD i 0 == b.getD i 0)=(a == b):=by rw[Bool.eq_iff_iff,wdu,beq_iff_eq];constructor;{intro h;apply we7 U;simp_all};grind
def jae{e m:Nat}{d:Was}(l:P.underlying t=some (.array m e))(j:P.underlying e=some (.int d))(k:∀w,(sizeOf e).run P w=.ok 1 w)(a b:Arr m Int)(w:Wao):
  (Op.equal t (.agg (a.1.map (Value.int d)).toArray) (.agg (b.1.map (Value.int d)).toArray)).run P w=.ok (a.1 == b.1) w:=by
 have h:=jwd (c:=λi=>a.1.getD i 0 == b.1.getD i 0) (xs:=(a.1.map (Value.int d)).toArray) (ys:=(b.1.map (Value.int d)).toArray) l j k (λi n=>by
  have f:i<a.1.length:=U;have g:i<b.1.length:=U;exact⟨.int d a.1[i],.int d b.1[i],V,V,by simp[Instr.sameNow,List.getD,f,g]⟩) w 9998
 rw[jki a.2 b.2]at h;exact h
def jsy(a b:ByteArray):Option ByteArray:=if((a.size+b.size:Nat):Int)<=9223372036854775807 then some (a++b)else none
def b_addS{a b r:ByteArray}(h:jsy a b=some r):J5 P .add t x y (.u (.string a)) (.u (.string b))=some (.u (.string r)):=by unfold jsy at h;split at h;{rename_i c;cases h;have:¬((a.size+b.size:Nat):Int) > IntKind.i64.max:=by{simp_all};simp only[J5,PV.val2,eqGuard,binOp,ve,vm,Op.stringOp,ofV,if_neg this];rfl};grind
def bltS(a b:ByteArray):Bool:=Op.bytesLess a.toList b.toList
def b_lssS(a b:ByteArray):J5 P .lss t x y (.u (.string a)) (.u (.string b))=some (.u (.bool (bltS a b))):=by simp[J5,PV.val2,eqGuard,binOp,ve,vm,Op.stringOp,ofV,bltS]
def zwd(k:IntKind)(a b:Int):Option Int:=if b=0 then none else some (k.wrap (a.tdiv b))
def z2y(k:IntKind)(a b:Int):Option Int:=if b=0 then none else some (a.tmod b)
def b_quo{k:Was}{a b r:Int}(h:zwd k a b=some r):J5 P .quo t x y (.u (.int k a)) (.u (.int k b))=some (.u (.int k r)):=by unfold zwd at h;split at h;{grind};.rename_i c;cases h;simp[J5,PV.val2,eqGuard,binOp,ve,vm,Op.intDiv,c,ofV]
def b_rem{k:Was}{a b r:Int}(h:z2y k a b=some r):J5 P .rem t x y (.u (.int k a)) (.u (.int k b))=some (.u (.int k r)):=by unfold z2y at h;split at h;{grind};.rename_i c;cases h;simp[J5,PV.val2,eqGuard,binOp,ve,vm,Op.intDiv,c,ofV]
end
section
variable{P:Program}{x y:Operand}{t t' : Nat}
def andI(k:IntKind)(a b:Int):Int:=k.wrap ((BitVec.ofInt k.bits a &&& BitVec.ofInt k.bits b).toNat)
def orI(k:IntKind)(a b:Int):Int:=k.wrap ((BitVec.ofInt k.bits a |||BitVec.ofInt k.bits b).toNat)
def xorI(k:IntKind)(a b:Int):Int:=k.wrap ((BitVec.ofInt k.bits a ^^^ BitVec.ofInt k.bits b).toNat)
def z7e(k:IntKind)(a b:Int):Int:=k.wrap ((BitVec.ofInt k.bits a &&& ~~~(BitVec.ofInt k.bits b)).toNat)
def jca(k:IntKind)(a b:Int):Option Int:=if b<0 then none else some (k.wrap (a*2 ^ (min b.toNat k.bits)))
def zvl(k:IntKind)(a b:Int):Option Int:=if b<0 then none else some (a.fdiv (2 ^ (min b.toNat k.bits)))
def b_and{k:Was}(a b:Int):J5 P .and t x y (.u (.int k a)) (.u (.int k b))=some (.u (.int k (andI k a b))):=by simp[J5,PV.val2,eqGuard,binOp,ve,vm,Op.intBits,ofV,andI]
def b_or{k:Was}(a b:Int):J5 P .or t x y (.u (.int k a)) (.u (.int k b))=some (.u (.int k (orI k a b))):=by simp[J5,PV.val2,eqGuard,binOp,ve,vm,Op.intBits,ofV,orI]
def b_xor{k:Was}(a b:Int):J5 P .xor t x y (.u (.int k a)) (.u (.int k b))=some (.u (.int k (xorI k a b))):=by simp[J5,PV.val2,eqGuard,binOp,ve,vm,Op.intBits,ofV,xorI]
def jsa{k:Was}(a b:Int):J5 P .andNot t x y (.u (.int k a)) (.u (.int k b))=some (.u (.int k (z7e k a b))):=by simp[J5,PV.val2,eqGuard,binOp,ve,vm,Op.intBits,ofV,z7e]
def b_shl{k d:Was}{a b r:Int}(h:jca k a b=some r):J5 P .shl t x y (.u (.int k a)) (.u (.int d b))=some (.u (.int k r)):=by unfold jca at h;split at h;{grind};.rename_i c;cases h;simp[J5,PV.val2,eqGuard,binOp,ve,vm,Op.shift,c,ofV]
def b_shr{k d:Was}{a b r:Int}(h:zvl k a b=some r):J5 P .shr t x y (.u (.int k a)) (.u (.int d b))=some (.u (.int k r)):=by unfold zvl at h;split at h;{grind};.rename_i c;cases h;simp[J5,PV.val2,eqGuard,binOp,ve,vm,Op.shift,c,ofV]
end
end
end Go.Proofs.YtiafpechgjopfaaGreatDoor
namespace Go.Proofs.YtiafpechgjopfaaGreatDoor.L
noncomputable section
set_option maxRecDepth 100000
set_option maxHeartbeats 8000000
set_option linter.unusedVariables false
set_option linter.unusedSimpArgs false
set_option linter.defProp false
open List (replicate range)
open Go Go.RowKit
section
variable{P:Program}{W:Env}{n:Nat}{H:PHeap}{F:PFrame}
def PHeap.only(H:PHeap)(D:Nm->Bool):PHeap:=λi=>if D i then H i else⟨(H i).ver,none⟩
def jgm(H a:PHeap)(D:Nm->Bool):Prop:=∀i,(D i=false->a i=H i)/\(D i=true->(a i).body=none/\(H i).ver<=(a i).ver)
def Env.kept(W:Env)(H:PHeap)(V:Nm->Value)(D:Nm->Bool):Env:={ W with Z:=⟨λb=>W.Z b\/∃id,D id=false/\(H id).body.isSome=true/\qc (V id)=some b,W.Z.m⟩ }
def z54{D:Nm->Bool}{i:Nm}{bd:PBody}(h:((H.only D) i).body=some bd):D i=true/\(H i).body=some bd:=by unfold PHeap.only at h;grind
def zdc{D:Nm->Bool}{i:Nm}(h:((H.only D) i).body.isSome=true):D i=true/\(H i).body.isSome=true:=by cases a:((H.only D) i).body with|none=>{grind}|some b=>obtain⟨c,d⟩:=z54 a;grind
def ztw{a:Wau}{D:Nm->Bool}{i:Nm}{bd:PBody}(c:jgm H a D)(h:(a i).body=some bd):D i=false/\(H i).body=some bd:=by cases b:D i with|true=>{rw[((c i).2 b).1]at h;grind}|false=>rw[(c i).1 b]at h;grind
def zdi{a:Wau}{D:Nm->Bool}{i:Nm}(c:jgm H a D)(h:(a i).body.isSome=true):D i=false/\(H i).body.isSome=true:=by obtain⟨d,b⟩:=wdh.1 h;obtain⟨e,f⟩:=ztw c b;grind
def Rp.only{D:Nm->Bool}{V:Nm->Wan}{w:Wao}{p:PV}{v:Wan}(h:Rp W.Z H V w p v):Rp (W.kept H V D).Z (H.only D) V w p v:=
 h.mono (λb hz e=>⟨λa=>by
  rcases a with(a|⟨id,_,c,d⟩)|⟨id,c,d⟩
  ·exact hz (.inl a)
  ·exact hz (.inr ⟨id,c,d⟩)
  ·exact hz (.inr ⟨id,(zdc c).2,d⟩),e,rfl⟩) (wcs _) (λid=>by unfold PHeap.only;grind) (λid i j f c=>by
  obtain⟨d,g⟩:=zdc f;refine⟨g,?_,rfl⟩;unfold PHeap.only at c
  grind)
def Rp.less{g:Wau}{D:Nm->Bool}(c:jgm H g D){V:Nm->Wan}{w:Wao}{p:PV}{v:Wan}(h:Rp W.Z H V w p v):Rp W.Z g V w p v:=
 h.mono (λb hz f=>⟨λa=>by
  rcases a with a|⟨id,d,e⟩
  ·exact hz (.inl a)
  ·exact hz (.inr ⟨id,(zdi c d).2,e⟩),f,rfl⟩) (wcs _) (λid=>by
  cases i:D id with
  |true=>exact((c id).2 i).2
  |false=>rw[(c id).1 i];simp) (λid k m j d=>by
  obtain⟨e,l⟩:=zdi c j;rw[(c id).1 e]at d
  grind)
def HRel.only{D:Nm->Bool}{V:Nm->Wan}{w:Wao}(c:HRel P W H V w):HRel P (W.kept H V D) (H.only D) V w:=by
 refine⟨c.below,λi f h=>?_,λi=>(c.ghost i).only,λi j g d a=>c.apart i j g (zdc d).2 (zdc a).2,λb hz=>?_,λi b d a hz=>?_⟩;{obtain⟨n,d,a⟩:=c.body i f (z54 h).2;exact⟨n,d,a.mono λp u m=>m.only⟩}
 .rcases hz with hz|⟨id,_,a,e⟩
  {exact c.zlt b hz};.exact(c.own_lt a e).2
 .rcases hz with hz|⟨id,e,k,l⟩
  {exact c.nz i b (zdc d).2 a hz};.have:=c.apart i id b (zdc d).2 k a l;subst this;rw[(zdc d).1]at e;grind
def HRel.less{f:Wau}{D:Nm->Bool}(a:jgm H f D){V:Nm->Wan}{w:Wao}(c:HRel P W H V w):HRel P W f V w:=by refine⟨c.below,λi k h=>?_,λi=>(c.ghost i).less a,λi j g d e=>c.apart i j g (zdi a d).2 (zdi a e).2,c.zlt,λi b d e=>c.nz i b (zdi a d).2 e⟩;obtain⟨m,d,e⟩:=c.body i k (ztw a h).2;exact⟨m,d,e.mono λp u l=>l.less a⟩
end
section
variable{α β:Type}{kv:α → Value}{eqb:α → α → Bool}
def kIx(eqb:α->α->Bool)(k:α):List α->Option Nat
 |[]=>none
 |e::a=>if eqb k e then some 0 else(kIx eqb k a).map (· + 1)
def zck{k:α}:∀{ks:Wam α}{j:Nat},kIx eqb k ks=some j->∃e,ks[j]?=some e/\eqb k e=true
 |[],j,h=>by cases h
 |e::c,j,h=>by unfold kIx at h;split at h;{grind};.obtain⟨i,a,rfl⟩:=wct.1 h;obtain⟨b,d,f⟩:=zck a;grind
def z4p{k:α}:∀{ks:Wam α}{vs:Wam β}{i:Nat},ks.length=vs.length->zbw eqb k (ks.zip vs) i=(kIx eqb k ks).bind λj=>(vs[j]?).map λv=>(i+j,v)
 |[],[],i,_=>rfl
 |e::a,v::vs,i,h=>by simp[ zbw,kIx];split;{simp};.rw[z4p X];cases kIx eqb k a with|none=>{rfl}|some j=>grind
end
def mapRφ(ks:List Value)(bs:List Nat)(clock:Nat):Nat->Obj->List Value->Prop:=λ_ o a=>∃arr,o=.map arr clock/\arr.toList.map (·.key)=ks/\arr.toList.map (·.val)=a/\arr.toList.map (·.born)=bs/\bs.Nodup/\∀b∈bs,b<clock
def V3(ks:List Value)(bs:List Nat)(clock:Nat)(cs:List PV):PBody :=.raw false cs (mapRφ ks bs clock)
def itφ(a:List Bool)(last:Option Nat):Nat->Obj->List Value->Prop:=λ_ o e=>∃(b:Nat)(c:Array Nat),e=[.map (some b)]/\o=.mapIter (some b) a.length c a.length/\(∀i,c.contains i=(a[i]?).getD false)/\∀j,last=some j->∃d:Array Nat,c=d.push j
def itB(id:Nm)(ver:Nat)(a:List Bool)(last:Option Nat):PBody :=.raw true [.ps id ver] (itφ a last)
def zy6{w:Wao}{g:Nat}{o:Obj}(h:w.heap[g]?=some o):{ w with heap:=w.heap.setIfInBounds g o }=w:=by have:w.heap.setIfInBounds g o=w.heap:=by{grind};rw[this]
section
variable{P:Program}{W:Env}{n:Nat}{H:PHeap}{F:PFrame}{o:Oper}{K:PV → PHeap → Prop}
variable{α:Type}{key elem:TypeId}{kv:α → Value}{eqb:α → α → Bool}{x y z:Operand}{t:TypeId}{id:Nm}{ver clock:Nat}{ks:List α}{bs:List Nat}{cs:List PV}
def zmv{a:Wam Wan}{V:Nm->Wan}{w:Wao}{v:Wan}(i:H id=⟨ver,some (V3 a bs clock cs)⟩)(n:HRel P W H V w)(p:Rp W.Z H V w (.ps id ver) v):
  ∃g arr,v=.map (some g)/\V id=.map (some g)/\W.w.heap.size<=g/\w.heap[g]?=some (.map arr clock)/\arr.toList.map (·.key)=a/\RpL W.Z H V w cs (arr.toList.map (·.val))/\arr.toList.map (·.born)=bs/\bs.Nodup/\∀b∈bs,b<clock:=by
 obtain⟨g,o,r,e,k,l,⟨arr,rfl,c,rfl,d,f,h⟩,j⟩:=n.map id false cs _ (by rw[i];rfl);cases p with
 |ps _ _ _ q m=>
  have:=m X X;exact⟨g,arr,by rw[this,e];rfl,e,k,l,c,j,d,f,h⟩
def jvw{arr:Array MapEntry}(h:arr.toList.map (·.key)=ks.map kv):arr.toList.map (λe=>(e.key,e.val))=(ks.zip (arr.toList.map (·.val))).map λe=>(kv e.1,(λv=>v) e.2):=by
 generalize arr.toList=l at h;induction l generalizing ks with
 |nil=>simp
 |cons e l a=>cases ks with
  |nil=>grind
  |cons k ks=>
   simp[ wfk]at h;simp[ true_and]
   grind
def zzc(a:zn7 P key kv eqb)(k:α)(w:Wao){arr:Array MapEntry}(h:arr.toList.map (·.key)=ks.map kv):(Instr.findKey key (kv k) arr.toList).run P w=.ok ((kIx eqb k ks).bind λj=>(arr.toList[j]?).map λe=>(j,e.val)) w:=by have b:ks.length=(arr.toList.map (·.val)).length:=by{have:=congrArg List.length h;grind};rw[zh5 (vv:=λv=>v) a k w (jvw h),z4p b];congr 1;cases kIx eqb k ks with|none=>{rfl}|some j=>grind
def wbj(B:zn7 P key kv eqb)(O:o.op=.mapEntry t x y)(ht:P.underlying t=some (.map key elem))(Y:H id=⟨ver,some (V3 (ks.map kv) bs clock cs)⟩)(hx:evP F x=.ps id ver){k:α}(hk:∀Z V w v,Rp Z H V w (evP F y) v->v=kv k){j b:Nat}{c:PV}(T:kIx eqb k ks=some j)(hc:cs[j]?=some c)(G:bs[j]?=some b):
  PQ P W o F H (.tup [c,.u (.int .i64 (b:Nat))]):=waf λV a w hw S=>by
 have A:=S x (by rw[O];simp[Op.operands]);have Q:=hk _ _ _ _ (S y (by rw[O];simp[Op.operands]));rw[hx]at A;obtain⟨g,arr,hv,hV,hg,D,d,J,m,a3,a2⟩:=zmv Y hw A;obtain⟨e,z,I⟩:=zck T;have M:=B.beq _ _ I;have L:j<arr.toList.length:=by
  have l:=congrArg List.length d;have q:=(wcl.1 z).1;simp at l⊢;omega
 obtain⟨h,f⟩:∃h,arr.toList[j]?=some h:=⟨_,wch L⟩
 have r:arr[j]?=some h:=by simpa using f
 have s:h.key=kv k:=by
  have:(arr.toList.map (·.key))[j]?=(ks.map kv)[j]?:=by rw[d]
  rw[wcv,wcv,f,z]at this;simp[wc5,wdn]at this;rw[this,M]
 have C:h.born=b:=by
  have:(arr.toList.map (·.born))[j]?=bs[j]?:=by rw[m]
  rw[wcv,f,G]at this;simpa using this
 have n:arr.modify j (λe=>{ e with key:=kv k })=arr:=by
  apply Array.ext';rw[Array.toList_modify,Go.ChangeMaps.modify_eq_set _ _ _ _ f];have:({ h with key:=kv k }:MapEntry)=h:=by rw[<- s]
  rw[this];exact WideElems.set_self _ _ _ f
 refine⟨.tuple #[h.val,.int .i64 (b:Nat)],?_,?_⟩
 ·have N:(Instr.keyThatStays (kv k) (kv k)).run P w=.ok (kv k) w:=by simp[Instr.keyThatStays,B.bits]
  have R:=zzc B k w d;rw[T,wdv,f,wc5]at R;have:(Instr.mapEntry t (.map (some g)) (kv k)).run P w=.ok (.tuple #[h.val,goInt h.born]) w:=by
   simp[Instr.mapEntry,run_underlying ht,MapKept.run_getObj_map D,B.chk,R,r,s,N,n,MapKept.run_setObj_map _ D,zy6 D]
  simp[execOp,O,hv,Q,Sem.run_bind,this,Result.andThen_ok,C];rfl
 ·refine .tup _ _ rfl λi p v l q=>?_
  match i,l,q with
  |0,l,q=>
   cases l;cases q;exact J.2 j c h.val hc X
  |1,l,q=>cases l;cases q;exact .u _
def jcg{V:Nm->Wan}{w:Wao}{g:Nat}{h:Obj}{bd:PBody}(m:HRel P W H V w)(f:∃bd,H id=⟨ver,some bd⟩)(o:qc (V id)=some g)(p:W.w.heap.size<=g):Turn W H V w id ⟨ver,some bd⟩ (V id) { w with heap:=w.heap.setIfInBounds g h }:=by obtain⟨i,f⟩:=f;have d:(H id).body.isSome=true:=X;have a:∀b,b≠g->(w.heap.setIfInBounds g h)[b]?=w.heap[b]?:=λb l=>X;exact⟨m.below.trans ⟨rfl,rfl,rfl,Waf,λb j=>a b U⟩,Waf,λb j k=>a b λe=>k ⟨d,X⟩,λn c=> .inr ⟨d,c⟩,.inr ⟨X,rfl,d⟩⟩
def wbd(I:zn7 P key kv eqb)(ho:o.op=.mapEntry t x y)(S:Zc n o)(ht:P.underlying t=some (.map key elem)){c:Wan}(hz:∀w,(zeroValue elem).run P w=.ok c w)(L:H id=⟨ver,some (V3 (ks.map kv) bs clock cs)⟩)(hx:evP F x=.ps id ver){k:α}(J:∀Z V w v,Rp Z H V w (evP F y) v->v=kv k)(Y:kIx eqb k ks=none)
  (R:K (.tup [.u c,.u (.int .i64 (clock:Nat))]) (H.set id ⟨ver,some (V3 ((ks++[k]).map kv) (bs++[clock]) (clock+1) (cs++[.u c]))⟩)):PE P W n o F H K:=λV a w A=>by
 have ev:∀x,Rp W.Z H V w (evP F x) (a.eval x):=λx=>Rp.eval (P:=P) x λt _=>A.slot t;have s:=ev x;have G:=J _ _ _ _ (ev y);rw[hx]at s;obtain⟨g,arr,hv,N,Q,z,e,M,l,a1,a0⟩:=zmv L A.heap s;have D:=(wde.1 z).1;have O:=zzc I k w e;rw[Y,Option.bind_none]at O;have q:(Instr.mapEntry t (.map (some g)) (kv k)).run P w=.ok (.tuple #[c,goInt clock]) { w with heap:=w.heap.setIfInBounds g (.map (arr.push ⟨kv k,c,clock⟩) (clock+1)) }:=by
  simp[Instr.mapEntry,run_underlying ht,MapKept.run_getObj_map z,I.chk,O,hz,MapKept.run_setObj_map _ z]
 have C:(execOp a.eval o).run P w=.ok (.value (.tuple #[c,goInt clock])) { w with heap:=w.heap.setIfInBounds g (.map (arr.push ⟨kv k,c,clock⟩) (clock+1)) }:=by
  simp only[execOp,ho,hv,G,Sem.run_bind,q,Result.andThen_ok];rfl
 have f:Turn W H V w id ⟨ver,some (V3 ((ks++[k]).map kv) (bs++[clock]) (clock+1) (cs++[.u c]))⟩ (V id) { w with heap:=w.heap.setIfInBounds g (.map (arr.push ⟨kv k,c,clock⟩) (clock+1)) }:=jcg A.heap ⟨_,L⟩ (by rw[N];rfl) Q;refine zh C ⟨_,_,zo V id (V id),R,?_⟩;refine A.turn f (λbd B=>?_) o.dst S (.tup _ _ rfl λi p v d m=>?_)
 ·cases B;refine⟨g,.map (arr.push ⟨kv k,c,clock⟩) (clock+1),_,N,Q,by simp[D],⟨arr.push ⟨kv k,c,clock⟩,rfl,by simp[e],rfl,by simp[l],?_,λb z=>?_⟩,?_⟩
  ·grind
  ·grind
  ·have d:RpL W.Z (H.set id ⟨ver,some (V3 ((ks++[k]).map kv) (bs++[clock]) (clock+1) (cs++[.u c]))⟩) (zo V id (V id)) { w with heap:=w.heap.setIfInBounds g (.map (arr.push ⟨kv k,c,clock⟩) (clock+1)) } cs (arr.toList.map (·.val)):=⟨M.1,λi p v h j=>f.rp (M.2 i p v h j)⟩
   have r:(arr.push ⟨kv k,c,clock⟩).toList.map (·.val)=arr.toList.map (·.val)++[c]:=Waf;rw[r];refine⟨by rw[wc4,wc4,d.1];rfl,λi p v h j=>?_⟩;by_cases T:i<cs.length
   ·rw[wcx T]at h;rw[wcx (by rw[<- d.1];omega)]at j;exact d.2 i p v h j
   ·rw[wcz U]at h;rw[wcz (by rw[<- d.1];omega),<- d.1]at j
    match hq:i-cs.length,h,j with
    |0,h,j=>cases h;cases j;exact .u _
    |_+1,h,j=>grind
 ·match i,d,m with
  |0,d,m=>cases d;cases m;exact .u _
  |1,d,m=>cases d;cases m;exact .u _
def PE.entryStore{d:Wam Wan}{s:War}{p:PV}{j b:Nat}(ho:o.op=.entryStore t x s y)(hd:Zc n o)(T:H id=⟨ver,some (V3 d bs clock cs)⟩)(hx:evP F x=.ps id ver)(hs:evP F s=.u (.int .i64 (b:Nat)))(a4:bs[j]?=some b)(hy:evP F y=p)
  (hK:K (.u undef) (H.set id ⟨ver,some (V3 d bs clock (cs.set j p))⟩)):PE P W n o F H K:=λV a w B=>by
 have ev:∀x,Rp W.Z H V w (evP F x) (a.eval x):=λx=>Rp.eval (P:=P) x λt _=>B.slot t;have r:=ev x;have z:=ev y;have R:a.eval s=.int .i64 (b:Nat):=by
  have:=ev s;rw[hs]at this;generalize a.eval s=q at this;cases this;rfl
 rw[hx]at r;rw[hy]at z;obtain⟨g,arr,hv,J,hg,G,N,Y,L,Q,O⟩:=zmv T B.heap r;have a6:=(wde.1 G).1;obtain⟨C,k,D⟩:∃C,arr.toList[j]?=some C/\C.born=b:=by
  grind
 have l:arr.findIdx? (λe=>((e.born:Nat):Int) == ((b:Nat):Int))=some j:=by
  rw[WideElems.findIdx_arr,<- D];exact WideElems.findIdx_born X k
 have m:(Instr.entryStore t (.map (some g)) (.int .i64 (b:Nat)) (a.eval y)).run P w=.ok () { w with heap:=w.heap.setIfInBounds g (.map (arr.modify j λe=>{ e with val:=a.eval y }) clock) }:=by
  simp[Instr.entryStore,MapKept.run_getObj_map G,asInt,asIntOf,l,MapKept.run_setObj_map _ G,Result.andThen]
 have M:(execOp a.eval o).run P w=.ok .skip { w with heap:=w.heap.setIfInBounds g (.map (arr.modify j λe=>{ e with val:=a.eval y }) clock) }:=by
  simp only[execOp,ho,hv,R,Sem.run_bind,m,Result.andThen_ok];rfl
 have c:Turn W H V w id ⟨ver,some (V3 d bs clock (cs.set j p))⟩ (V id) { w with heap:=w.heap.setIfInBounds g (.map (arr.modify j λe=>{ e with val:=a.eval y }) clock) }:=jcg B.heap ⟨_,T⟩ (by rw[J];rfl) hg;have a1:∀{γ:Type}(f:MapEntry->γ),(∀e v,f { e with val:=v }=f e)->(arr.modify j λe=>{ e with val:=a.eval y }).toList.map f=arr.toList.map f:=λf hf=>by
  apply wd1
  grind
 unfold Oper.wp;rw[M];refine⟨.u undef,_,zo V id (V id),hK,B.turn c (λbd I=>?_) o.dst hd (.u _)⟩;cases I;refine⟨g,.map (arr.modify j λe=>{ e with val:=a.eval y }) clock,_,J,hg,X,⟨_,rfl,X,rfl,X,Q,O⟩,?_⟩;refine⟨by rw[wd5,Y.1];simp,λi q v h A=>?_⟩;simp only[Array.toList_modify,wcv,List.getElem?_modify]at A;rw[wdl]at h;by_cases S:j=i
 ·subst S;rw[k]at A;have A:a.eval y=v:=X;simp only[if_true]at h;split at h
  ·cases h;subst A;exact c.rp z
  grind
 ·rw[if_neg S]at h;have h5:(arr.toList.map (·.val))[i]?=some v:=by
   grind
  exact c.rp (Y.2 i q v h h5)
def wb2(p:zn7 P key kv eqb)(m:o.op=.lookup t x y false)(M:P.underlying t=some (.map key elem))(u:H id=⟨ver,some (V3 (ks.map kv) bs clock cs)⟩)(Q:evP F x=.ps id ver){k:α}(G:∀Z V w v,Rp Z H V w (evP F y) v->v=kv k){j:Nat}{c:PV}(s:kIx eqb k ks=some j)(B:cs[j]?=some c):
  PQ P W o F H c:=waf λV a w O r=>by
 have f:=r x (by rw[m];simp[Op.operands]);have n:=G _ _ _ _ (r y (by rw[m];simp[Op.operands]));rw[Q]at f;obtain⟨g,arr,N,S,T,A,b,z,i,L,I⟩:=zmv u O f;obtain⟨e,C,D⟩:=zck s;have l:j<arr.toList.length:=by
  have R:=congrArg List.length b
  grind
 obtain⟨d,h⟩:∃d,arr.toList[j]?=some d:=⟨_,wch l⟩
 have q:=zzc p k w b;rw[s,wdv,h,wc5]at q;refine⟨d.val,?_,z.2 j c d.val B X⟩;have:(Instr.lookup t (.map (some g)) (kv k) false).run P w=.ok d.val w:=by
  simp[Instr.lookup,run_underlying M,MapKept.run_getObj_map A,p.chk,q]
 simp only[execOp,m,N,n,Sem.run_bind,this,Result.andThen_ok];rfl
def wb5{z:Wam Wan}{r:Nm}{d:Nat}(O:o.op=.range t x)(Z:o.dst=some d)(I:d<n)(B:P.underlying t=some (.map key elem))(N:id≠r)(C:H id=⟨ver,some (V3 z bs clock cs)⟩)(R:evP F x=.ps id ver)
  (D:K (.ps r ((H r).ver+1)) (H.set r ⟨(H r).ver+1,some (itB id ver (replicate clock false) none)⟩)):PE P W n o F H K:=λV a w e=>by
 have c:=Rp.eval (P:=P) x λt _=>e.slot t;have f:=c;rw[R]at c f;obtain⟨g,arr,Q,Y,A,G,y,T,s,M,L⟩:=zmv C e.heap c;have u:(execOp a.eval o).run P w=.ok (.value (.pointer (some ⟨w.heap.size,0,none⟩))) (w.alloc (.mapIter (some g) clock #[] clock)):=by
  simp only[execOp,O,Q,Sem.run_bind,run_range_map w t key elem g arr clock B G,Result.andThen_ok];rfl
 refine zh u ⟨_,_,zo V r (.pointer (some ⟨w.heap.size,0,none⟩)),D,?_⟩;have q:Below w.heap.size w (w.alloc (.mapIter (some g) clock #[] clock)):=(Below.refl _ _).alloc (wcs _) _;have b:Turn W H V w r ⟨(H r).ver+1,some (itB id ver (replicate clock false) none)⟩ (.pointer (some ⟨w.heap.size,0,none⟩)) (w.alloc (.mapIter (some g) clock #[] clock)):=Turn.new e.heap q rfl λg A=>by cases A;simp
 refine e.turn b (λS m=>?_) o.dst (λt B=>X) ?_
 ·cases m;refine⟨w.heap.size,_,[.map (some g)],rfl,e.heap.below.size,heap_alloc_new w _,⟨g,#[],rfl,Waf,λi=>?_,λj h=>by cases h⟩,rfl,λi p v k l=>?_⟩
  ·rw[wee];split<;>simp
  ·match i,k,l with
   |0,k,l=>
    cases k;cases l;have:=b.rp f
    grind
 ·refine .ps _ _ _ ?_ λ_ _=>?_
  ·simp[PHeap.set]
  ·simp[zo]
def jwv{r:Nm}{vr:Nat}{c:Wam Bool}{last:Wal Nat}{h:Wam Wan}{V:Nm->Wan}{w:Wao}{v:Wan}(p:H id=⟨ver,some (V3 h bs clock cs)⟩)(k:H r=⟨vr,some (itB id ver c last)⟩)(n:HRel P W H V w)(A:Rp W.Z H V w (.ps r vr) v):
  ∃(f g:Nat)(arr:Array MapEntry)(a:Array Nat),v=.pointer (some ⟨f,0,none⟩)/\V r=.pointer (some ⟨f,0,none⟩)/\W.w.heap.size<=f/\w.heap[f]?=some (.mapIter (some g) c.length a c.length)/\((∀i,a.contains i=(c[i]?).getD false)/\∀j,last=some j->∃C:Array Nat,a=C.push j)/\Rp W.Z H V w (.ps id ver) (.map (some g))/\w.heap[g]?=some (.map arr clock)/\arr.toList.map (·.key)=h/\RpL W.Z H V w cs (arr.toList.map (·.val))/\arr.toList.map (·.born)=bs/\bs.Nodup/\∀b∈bs,b<clock:=by
 obtain⟨f,o,F,e,t,x,⟨b,a,rfl,rfl,z⟩,q⟩:=n.map r true _ _ (by rw[k];rfl);have m:=q.2 0 _ _ rfl rfl;obtain⟨g,arr,l,D,u,s,d⟩:=zmv p n m;cases l;cases A with
 |ps _ _ _ B y=>
  have:=y X X;exact⟨f,_,arr,a,by rw[this,e];rfl,e,t,x,z,m,s,d⟩
def wcc{r:Nm}{vr m:Nat}{f:Wam Bool}{last:Wal Nat}{S:Wam Wan}(ho:o.op=.next x false)(hd:Zc n o)(hH:H id=⟨ver,some (V3 S (range m) m cs)⟩)(L:H r=⟨vr,some (itB id ver f last)⟩)(hm:f.length=m)(hx:evP F x=.ps r vr)
  (h0:(∀i,i<m->f[i]?=some true)->K (.tup [.u (.bool false)]) H)
  (A:∀j c k,j<m->cs[j]?=some c->S[j]?=some k->f[j]?=some false->K (.tup [.u (.bool true),ofV k,c]) (H.set r ⟨vr,some (itB id ver (f.set j true) (some j))⟩)):PE P W n o F H K:=λV a w J=>by
 have a3:=Rp.eval (P:=P) x λt _=>J.slot t;rw[hx]at a3;obtain⟨T,g,arr,d,hv,hV,b2,N,⟨R,_⟩,c0,hb,Q,hR,l,d1,b8⟩:=jwv hH L J.heap a3;rw[hm]at N;have b1:=(wde.1 N).1;have Z:∀x∈arr.toList,x.born<m:=λx hx=>b8 _ (by rw[<- l];exact wc6.2 ⟨x,hx,rfl⟩);rcases run_next_at (P:=P) w o.type T g m m d arr m N hb Z (wcs _)with⟨hs,y⟩|⟨e,he,w1,a0,y⟩
 ·have O:(execOp a.eval o).run P w=.ok (.value (.tuple #[.bool false])) w:=by
   simp only[execOp,ho,hv,Sem.run_bind,y,Result.andThen_ok];rfl
  refine zh O ⟨_,_,V,h0 λi hi=>?_,J.put (Below.refl _ _) o.dst hd (.tup _ _ rfl λi p v A C=>?_)⟩
  ·have b3:i∈arr.toList.map (·.born):=by rw[l];exact weq.2 hi
   obtain⟨x,hx,rfl⟩:=wc6.1 b3;have I:=all_seen arr d hs x hx;rw[R]at I;rw[wch (by rw[hm];exact hi)]at I⊢;simpa using I
  ·match i,A,C with
   |0,A,C=>cases A;cases C;exact .u _
 ·obtain⟨a9,D⟩:=mem_left he;obtain⟨j,hj⟩:=wdd a9;have b6:S[j]?=some e.key:=by rw[<- Q,wcv,hj];rfl
  have M:(range m)[j]?=some e.born:=by rw[<- l,wcv,hj];rfl
  have G:j<m:=by have:=(wcl.1 M).1;simpa using this
  have b5:e.born=j:=by rw[wch (by simpa using G)]at M;simpa using M.symm
  have c2:(arr.toList.map (·.val))[j]?=some e.val:=by rw[wcv,hj];rfl
  obtain⟨c,Y⟩:∃c,cs[j]?=some c:=⟨_,wch (by rw[hR.1];grind)⟩
  rw[b5]at y D;have b9:f[j]?=some false:=by
   rw[R]at D;rw[wch (by rw[hm];exact G)]at D⊢;simpa using D
  have O:(execOp a.eval o).run P w=.ok (.value (.tuple #[.bool true,e.key,e.val])) (Go.ChangeMaps.setBlock w1 T (.mapIter (some g) m (d.push j) m)):=by
   simp only[execOp,ho,hv,Sem.run_bind,y,Result.andThen_ok];rfl
  have z:w1.heap=w.heap:=by rcases a0 with rfl|rfl<;>rfl
  have a1:∀{B:Nat}{a:Wao},Below B a w->Below B a w1:=λ{B a}h=>by rcases a0 with rfl|rfl;exact h;exact h.trans ⟨rfl,rfl,rfl,wcs _,λ_ _=>rfl⟩
  have hl:(H r).body.isSome=true:=by rw[L];rfl
  have s:∀b,b≠T->(Go.ChangeMaps.setBlock w1 T (.mapIter (some g) m (d.push j) m)).heap[b]?=w.heap[b]?:=λb c1=>by
   unfold Go.ChangeMaps.setBlock;simp[z];simp[Ne.symm c1]
  have q:Turn W H V w r ⟨vr,some (itB id ver (f.set j true) (some j))⟩ (V r) (Go.ChangeMaps.setBlock w1 T (.mapIter (some g) m (d.push j) m)):=
   ⟨(a1 J.heap.below).trans ⟨rfl,rfl,rfl,by simp[Go.ChangeMaps.setBlock],λb hb=>by rw[s b U,z]⟩,by simp[Go.ChangeMaps.setBlock,z],λb hb hn=>s b λe=>hn ⟨hl,by rw[e,hV];rfl⟩,λg' b0=> .inr ⟨hl,b0⟩,.inr ⟨by rw[L],rfl,hl⟩⟩
  refine zh O ⟨_,_,zo V r (V r),A j c e.key G Y b6 b9,?_⟩;refine J.turn q (λbd a8=>?_) o.dst hd (.tup _ _ rfl λi p v A C=>?_)
  ·cases a8;refine⟨T,.mapIter (some g) m (d.push j) m,[.map (some g)],hV,b2,by simp[Go.ChangeMaps.setBlock,z,b1],⟨g,d.push j,rfl,by rw[wd5,hm],λi=>?_,λi hi=>?_⟩,rfl,λi p v I h4=>?_⟩
   ·rw[wdl];have hp:(d.push j).contains i=(d.contains i ||i == j):=by simp only[Array.contains_push,Bool.or_comm]
    rw[hp,R];by_cases e:j=i
    ·subst e;rw[if_pos rfl,if_pos (by rw[hm];exact G)];simp
    ·rw[if_neg e];simp[Ne.symm e]
   ·cases hi;exact⟨d,rfl⟩
   ·match i,I,h4 with
    |0,I,h4=>cases I;cases h4;exact q.rp c0
  ·match i,A,C with
   |0,A,C=>cases A;cases C;exact .u _
   |1,A,C=>cases A;cases C;exact Rp.ofV _ _ _ _ _
   |2,A,C=>cases A;cases C;exact q.rp (hR.2 j c e.val Y c2)
def wb3{r:Nm}{vr j m:Nat}{b:Wam Bool}{u:Wam Wan}{c:PV}{k:Wan}(G:o.op=.entry x)(M:H id=⟨ver,some (V3 u (range m) m cs)⟩)(y:H r=⟨vr,some (itB id ver b (some j))⟩)(hm:b.length=m)(hx:evP F x=.ps r vr)(T:j<m)(Q:cs[j]?=some c)(D:u[j]?=some k):PQ P W o F H (.tup [ofV k,c]):=waf λV a w hw S=>by
 have t:=S x (by rw[G];simp[Op.operands]);rw[hx]at t;obtain⟨L,g,arr,I,hv,hV,R,n,⟨_,J⟩,Z,O,f,N,d,B,Y⟩:=jwv M y hw t;obtain⟨s0,rfl⟩:=J j rfl;obtain⟨e,q,z⟩:∃e,arr.toList[j]?=some e/\e.born=j:=by{have C:(arr.toList.map (·.born))[j]?=some j:=by{rw[d];simp[T]};rw[wcv]at C;exact wct.1 C};have A:e.key=k:=by{rw[<- f,wcv,q]at D;simpa using D};rw[<- z]at n;have s:=run_entry_at (P:=P) w L g b.length s0 arr b.length e n X (wcq q) (by rw[d];exact B);refine⟨.tuple #[e.key,e.val],?_,.tup _ _ rfl λi p v h l=>?_⟩;{simp only[execOp,G,hv,Sem.run_bind,s,Result.andThen_ok];rfl}
 .match i,h,l with
  |0,h,l=>cases h;cases l;rw[A];exact Rp.ofV _ _ _ _ _
  |1,h,l=>cases h;cases l;exact N.2 j c e.val Q X
end
end
end Go.Proofs.YtiafpechgjopfaaGreatDoor.L
namespace Go.Proofs.YtiafpechgjopfaaGreatDoor.T
noncomputable section
set_option maxRecDepth 100000
set_option maxHeartbeats 8000000
set_option linter.unusedVariables false
set_option linter.unusedSimpArgs false
set_option linter.defProp false
open List (replicate range)
open Go Go.RowKit L
inductive Ty where
 |int (k:IntKind)
 |bool
 |str
 |sl (t:Ty)
 |ref (t:Ty)
 |arr (n:Nat) (t:Ty)
 |nil
 |cons (a r:Ty)
 |st (r:Ty)
 |tup (r:Ty)
structure Arr(n:Nat)(α:Type)where
 l:List α
 h:l.length=n
@[reducible] def Ty.D:Ty->Type
 |.int _=>Int
 |.bool=>Bool
 |.str=>List UInt8
 |.sl t=>List t.D
 |.ref t=>Option t.D
 |.arr n t=>Arr n t.D
 |.nil=>Unit
 |.cons a r=>a.D×r.D
 |.st r=>r.D
 |.tup r=>r.D
def ikB:IntKind->IntKind->Bool
 |.i8,.i8|.i16,.i16|.i32,.i32|.i64,.i64|.u8,.u8|.u16,.u16|.u32,.u32|.u64,.u64=>true
 |_,_=>false
def z7j{a b:Was}(h:ikB a b=true):a=b:=by cases a<;>cases b<;>first|rfl|cases h
def Ty.eqB:Ty->Ty->Bool
 |.int k,.int c=>ikB k c
 |.bool,.bool=>true
 |.str,.str=>true
 |.sl a,.sl b=>a.eqB b
 |.ref a,.ref b=>a.eqB b
 |.arr n a,.arr m b=>Nat.beq n m && a.eqB b
 |.nil,.nil=>true
 |.cons a r,.cons b s=>a.eqB b && r.eqB s
 |.st r,.st s=>r.eqB s
 |.tup r,.tup s=>r.eqB s
 |_,_=>false
def Ty.eqB_eq:∀{a b:Ty},a.eqB b=true->a=b
 |.int k,b,h=>by cases b<;>simp[eqB]at h<;>first|(rw[z7j h])|cases h
 |.bool,b,h=>by cases b<;>simp[eqB]at h<;>first|rfl|cases h
 |.str,b,h=>by cases b<;>simp[eqB]at h<;>first|rfl|cases h
 |.sl a,b,h=>by cases b<;>simp[eqB]at h<;>first|(rw[eqB_eq h])|cases h
 |.ref a,b,h=>by cases b<;>simp[eqB]at h<;>first|(rw[eqB_eq h])|cases h
 |.arr n a,b,h=>by cases b<;>simp only[eqB]at h<;>first|(rw[wco]at h;rw[eqB_eq h.2,wcn h.1])|cases h
 |.nil,b,h=>by cases b<;>simp[eqB]at h<;>first|rfl|cases h
 |.cons a r,b,h=>by cases b<;>simp only[eqB]at h<;>first|(rw[wco]at h;rw[eqB_eq h.1,eqB_eq h.2])|cases h
 |.st r,b,h=>by cases b<;>simp[eqB]at h<;>first|(rw[eqB_eq h])|cases h
 |.tup r,b,h=>by cases b<;>simp[eqB]at h<;>first|(rw[eqB_eq h])|cases h
def castD{a b:Ty}(h:a=b)(x:a.D):b.D:=h▸x
def jql(a b:Ty)(x:a.D):Option b.D:=match h:a.eqB b with
 |true=>some (castD (Ty.eqB_eq h) x)
 |false=>none
def wid:Ty->Nat
 |.arr n t=>n*wid t
 |.nil=>0
 |.cons a r=>wid a+wid r
 |.st r=>wid r
 |_=>1
def Y9:Ty->Bool
 |.arr _ _=>true
 |.nil=>true
 |.cons _ _=>true
 |.st _=>true
 |_=>false
def mkV(t:Ty)(cs:List PV):PV:=match Y9 t with
 |true => .agg cs
 |false=>cs.headD .unk
def Qd:Ty->List PV->List PV
 |.cons a r,cs=>mkV a (cs.take (wid a))::Qd r (cs.drop (wid a))
 |_,_=>[]
def jp:(t:Ty)->t.D->List PV
 |.int k,z=>[.u (.int k z)]
 |.bool,b=>[.u (.bool b)]
 |.str,s=>[.u (.string ⟨⟨s⟩⟩)]
 |.sl t,l=>[.sl (wid t) (l.map λx=>mkV t (jp t x))]
 |.ref t,o=>[match o with
  |none => .u (.pointer none)
  |some x => .rp (jp t x)]
 |.arr _ t,v=>v.l.flatMap (jp t)
 |.nil,_=>[]
 |.cons a r,x=>jp a x.1++jp r x.2
 |.st r,x=>jp r x
 |.tup r,x=>[.tup (Qd r (jp r x))]
def enc(t:Ty)(x:t.D):PV:=mkV t (jp t x)
def J4{α:Type}(f:α->Wam PV)(k:Nat):∀(l:Wam α),(∀x∈l,(f x).length=k)->(l.flatMap f).length=l.length*k
 |[],_=>V
 |a::l,h=>by rw[wdj,wc4,h a V,J4 f k l (λx b=>h x X)];grind
def ju:∀t x,(jp t x).length=wid t
 |.int _,_=>rfl
 |.bool,_=>rfl
 |.str,_=>rfl
 |.sl _,_=>rfl
 |.ref _,_=>rfl
 |.arr n t,v=>by simp only[jp,wid];rw[J4 _ (wid t) v.l λx _=>ju t x,v.h]
 |.nil,_=>rfl
 |.cons a r,x=>by simp[jp,wid,wc4,ju a,ju r]
 |.st r,x=>by simp[jp,wid];exact ju r x
 |.tup _,_=>rfl
def jma(t:Ty)(x:t.D):(mkV t (jp t x)).cells=jp t x:=by
 cases t<;>first|rfl|(simp[jp,mkV,Y9];split<;>rfl)
def enc_cells(t:Ty)(x:t.D):(enc t x).cells=jp t x:=jma t x
def Zl(t:Ty)(l:Wam t.D):(l.map (enc t)).flatMap PV.cells=l.flatMap (jp t):=by rw[List.flatMap_map];exact congrArg (λf=>l.flatMap f) (funext λx=>enc_cells t x)
def zji(t:Ty)(l:Wam t.D):enc (.sl t) l=.sl (wid t) (l.map (enc t)):=rfl
def z6e{t:Ty}{cs:Wam PV}(h:∀c∈cs,NoP c)(b:Y9 t=false->cs≠[]):NoP (mkV t cs):=by unfold mkV;cases a:Y9 t;{cases cs with|nil=>{grind}|cons c cs=>grind};.exact .agg _ h
def zht{t:Ty}(h:Y9 t=false):wid t=1:=by cases t<;>first|rfl|cases h
def zos{P:PV->Prop}:∀r cs,cs.length=wid r->(∀c∈cs,P c)->(∀{t:Ty}{ds:Wam PV},(∀c∈ds,P c)->(Y9 t=false->ds≠[])->P (mkV t ds))->∀p∈Qd r cs,P p
 |.cons a r,cs,g,h,i,p,b=>by simp[Qd,wda]at b;rcases b with rfl|b;{refine i (λc d=>h c (wfd d)) λf e=>?_;have:(cs.take (wid a)).length=0:=X;simp[wid]at g;rw[wfg,zht f]at this;have:=zht f;omega};.refine zos r _ ?_ (λc d=>h c (wfe d)) i p b;simp[wid]at g;grind
 |.int _,_,_,_,_,p,b=>by trivial
 |.bool,_,_,_,_,p,b=>by trivial
 |.str,_,_,_,_,p,b=>by trivial
 |.sl _,_,_,_,_,p,b=>by trivial
 |.ref _,_,_,_,_,p,b=>by trivial
 |.arr _ _,_,_,_,_,p,b=>by trivial
 |.nil,_,_,_,_,p,b=>by trivial
 |.st _,_,_,_,_,p,b=>by trivial
 |.tup _,_,_,_,_,p,b=>by trivial
def zxf{t:Ty}(x:t.D)(h:Y9 t=false):jp t x≠[]:=λe=>by have:=ju t x;rw[e,zht h]at this;grind
def za:∀t x,∀c∈jp t x,NoP c
 |.int _,_,c,h=>by simp[jp,wcr]at h;subst h;exact .u _
 |.bool,_,c,h=>by simp[jp,wcr]at h;subst h;exact .u _
 |.str,_,c,h=>by simp[jp,wcr]at h;subst h;exact .u _
 |.sl t,l,c,h=>by simp[jp,wcr]at h;subst h;refine .sl _ _ λc e=>?_;obtain⟨x,_,rfl⟩:=wc6.1 e;exact z6e (za t x) (zxf x)
 |.ref t,o,c,h=>by simp[jp,wcr]at h;subst h;cases o with|none=>{exact .u _}|some x=>exact .rp _ (za t x)
 |.arr n t,v,c,h=>by simp only[jp]at h;obtain⟨x,_,f⟩:=wdm.1 h;exact za t x c f
 |.nil,_,c,h=>by trivial
 |.cons a r,x,c,h=>by simp[jp,wcu]at h;rcases h with h|h;{exact za a _ c h};.exact za r _ c h
 |.st r,x,c,h=>by simp[jp]at h;exact za r _ c h
 |.tup r,x,c,h=>by simp[jp,wcr]at h;subst h;exact .tup _ (zos r _ (ju r x) (za r x) λb d=>z6e b d)
def zcj(t:Ty)(x:t.D):NoP (enc t x):=z6e (za t x) (zxf x)
def zhz:Ty->Bool
 |.arr _ t=>zhz t
 |.cons a r=>zhz a && zhz r
 |.st r=>zhz r
 |.tup _=>false
 |_=>true
def zf7:∀t x H,zhz t=true->∀c∈jp t x,V4 H c=true
 |.int _,_,H,_,c,h=>by simp[jp,wcr]at h;subst h;rfl
 |.bool,_,H,_,c,h=>by simp[jp,wcr]at h;subst h;rfl
 |.str,_,H,_,c,h=>by simp[jp,wcr]at h;subst h;rfl
 |.sl t,l,H,_,c,h=>by simp[jp,wcr]at h;subst h;rfl
 |.ref t,o,H,_,c,h=>by simp[jp,wcr]at h;subst h;cases o<;>rfl
 |.arr n t,v,H,b,c,h=>by simp only[jp]at h;obtain⟨x,_,d⟩:=wdm.1 h;exact zf7 t x H (by assumption) c d
 |.nil,_,H,_,c,h=>by trivial
 |.cons a r,x,H,b,c,h=>by simp[zhz,wco]at b;simp[jp,wcu]at h;rcases h with h|h;{exact zf7 a _ H b.1 c h};.exact zf7 r _ H b.2 c h
 |.st r,x,H,b,c,h=>by simp[jp]at h;exact zf7 r _ H (by assumption) c h
 |.tup r,x,H,b,c,h=>by trivial
structure Dyn where
 t:Ty
 x:t.D
def Dyn.pv(d:Dyn):PV:=enc d.t d.x
def Dyn.as(d:Dyn)(t:Ty):Option t.D:=jql d.t t d.x
def wag{d:Dyn}{t:Ty}{x:t.D}(h:d.as t=some x):d=⟨t,x⟩:=by obtain⟨b,y⟩:=d;unfold Dyn.as jql at h;simp only at h;split at h;{rename_i a;have:=Ty.eqB_eq a;subst this;cases h;rfl};grind
inductive TS where
 | v (d : Dyn)                               -- told data
 | c (v : Value)                             -- a constant
 | own (id ver : Nat)                        -- the slice, or map, that an own block is
 | q (id k off ver : Nat)                    -- that slice from an element on
 | pt (id off ver : Nat)                     -- a pointer into an own block
 | elt (id k : Nat) (i : Int) (off ver : Nat) -- a pointer into an element of an own block
 | kid (id : Nat) (p : Int) (v : Nat)        -- an own row's element that is an own row
 | kel (id : Nat) (p : Int) (k : Nat) (i : Int) (off v : Nat) -- a pointer into an element of it
 | rd (d : Dyn)                              -- a pointer to told data
 |dead
 |fn (f:Fn) (a b:List TS)
 | agg (xs : List TS)                        -- a struct: parts, one behind the other
 |tup (xs:List TS)
 deriving Inhabited
mutual
def TS.den:TS->PV
 |.v d=>enc d.t d.x
 |.c v=>ofV v
 |.own id g => .ps (.o id) g
 |.q id k e g => .qs (.o id) e k g
 |.pt id e g => .pp (.o id) e g
 |.elt id k i e g => .pp (.o id) (i.toNat*k+e) g
 |.kid id p v => .ps (.c id p.toNat) v
 |.kel id p k i e v => .pp (.c id p.toNat) (i.toNat*k+e) v
 |.rd d => .rp (jp d.t d.x)
 |.dead => .unk
 |.fn f a b => .fn f (zq a) (zq b)
 |.agg h => .agg (qb h)
 |.tup h => .tup (zq h)
def zq:List TS->List PV
 |[]=>[]
 |x::a=>x.den::zq a
def qb:List TS->List PV
 |[]=>[]
 |x::a=>x.den.cells++qb a
end
def zgz(xs:Wam TS):zq xs=xs.map TS.den:=by induction xs with|nil=>{rfl}|cons x xs a=>simp[zq,a]
def zr9(xs:Wam TS):qb xs=xs.flatMap λx=>x.den.cells:=by induction xs with|nil=>{rfl}|cons x xs a=>simp[qb,a]
def zuq(xs ys:Wam TS):qb (xs++ys)=qb xs++qb ys:=by simp[zr9,wer]
def ja4(a b:Wam TS):zq (a++b)=zq a++zq b:=by simp[zgz,wdb]
def jrv:Value->Nat
 |.agg a=>a.size
 |_=>1
mutual
def Zy:TS->Nat
 |.v d=>wid d.t
 |.c v=>jrv v
 |.agg a=>jsq a
 |_=>1
def jsq:List TS->Nat
 |[]=>0
 |x::a=>Zy x+jsq a
end
mutual
theorem zj1:∀s:TS,s.den.cells.length=Zy s
 |.v d=>by simp only[TS.den,Zy,enc_cells,ju]
 |.c v=>by simp only[TS.den,Zy];cases v<;>simp[ofV,PV.cells,jrv]
 |.own _ _=>by simp only[TS.den,Zy,PV.cells,wdc]
 |.q _ _ _ _=>by simp only[TS.den,Zy,PV.cells,wdc]
 |.pt _ _ _=>by simp only[TS.den,Zy,PV.cells,wdc]
 |.elt _ _ _ _ _=>by simp only[TS.den,Zy,PV.cells,wdc]
 |.kid _ _ _=>by simp only[TS.den,Zy,PV.cells,wdc]
 |.kel _ _ _ _ _ _=>by simp only[TS.den,Zy,PV.cells,wdc]
 |.rd _=>by simp only[TS.den,Zy,PV.cells,wdc]
 |.dead=>by simp only[TS.den,Zy,PV.cells,wdc]
 |.fn _ _ _=>by simp only[TS.den,Zy,PV.cells,wdc]
 |.agg a=>by simp only[TS.den,Zy,PV.cells];exact jcj a
 |.tup _=>by simp only[TS.den,Zy,PV.cells,wdc]
theorem jcj:∀a:Wam TS,(qb a).length=jsq a
 |[]=>by simp only[qb,jsq,weo]
 |x::a=>by simp only[qb,jsq,wc4,zj1 x,jcj a]
end
def Ref(p q:PV):Prop:=∀(Z:ZM)(H:PHeap)(V:Nm->Value)(w:World)(v:Value),Rp Z H V w p v->Rp Z H V w q v
def Ref.refl(p:PV):Ref p p:=λ_ _ _ _ _ h=>h
def Ref.unk(p:PV):Ref p .unk:=λ_ _ _ _ v _=> .unk v
def RefL(ps qs:List PV):Prop:=ps.length=qs.length/\∀(i:Nat)(p q:PV),ps[i]?=some p->qs[i]?=some q->Ref p q
def RefL.refl(ps:Wam PV):RefL ps ps:=⟨rfl,λi p q b a=>by rw[b]at a;cases a;exact Ref.refl p⟩
def RefL.nil:RefL [] []:=RefL.refl []
def RefL.cons{p q:PV}{ps qs:Wam PV}(h:Ref p q)(c:RefL ps qs):RefL (p::ps) (q::qs):=⟨by simp[c.1],λi a b d e=>by
 cases i with
 |zero=>grind
 |succ i=>exact c.2 i a b X X⟩
def RefL.append{a b c d:Wam PV}(e:RefL a b)(h:RefL c d):RefL (a++c) (b++d):=⟨by simp[e.1,h.1],λi p q f g=>by
 by_cases j:i<a.length;{rw[wcx j]at f;rw[wcx (by rw[<- e.1];omega)]at g;exact e.2 i p q f g};.rw[wcz U]at f;rw[wcz (by rw[<- e.1];omega),<- e.1]at g;exact h.2 _ p q f g⟩
def RefL.take{a b:Wam PV}(h:RefL a b)(k:Nat):RefL (a.take k) (b.take k):=⟨by simp[h.1],λi p q c d=>by
 rw[wes]at c d;split at c;{rename_i e;rw[if_pos e]at d;exact h.2 i p q c d};grind⟩
def RefL.drop{a b:Wam PV}(h:RefL a b)(k:Nat):RefL (a.drop k) (b.drop k):=⟨by simp[h.1],λi p q c d=>by
 rw[List.getElem?_drop]at c d;exact h.2 _ p q c d⟩
def RefL.rpL{ps qs:Wam PV}(h:RefL ps qs){Z:ZM}{H:Wau}{V:Nm->Wan}{w:Wao}{vs:Wam Wan}(b:RpL Z H V w ps vs):RpL Z H V w qs vs:=⟨by rw[<- h.1];exact b.1,λi q v c d=>by
 have a:i<ps.length:=by{rw[h.1];grind};exact h.2 i _ q (wch a) c _ _ _ _ _ (b.2 i _ v (wch a) d)⟩
def Ref.agg{ps qs:Wam PV}(h:RefL ps qs):Ref (.agg ps) (.agg qs):=λZ H V w v d=>by cases d with|agg _ f e c=>have:=h.rpL ⟨U,λi p v a b=>c i p v a X⟩;exact .agg _ _ (by simpa using this.1) λi p v a b=>this.2 i p v a X
def Ref.tup{ps qs:Wam PV}(h:RefL ps qs):Ref (.tup ps) (.tup qs):=λZ H V w v d=>by cases d with|tup _ f e c=>have:=h.rpL ⟨U,λi p v a b=>c i p v a X⟩;exact .tup _ _ (by simpa using this.1) λi p v a b=>this.2 i p v a X
def wbp(k:Nat)(a:Wal Addr)(c:Nat):Ref (.u (.slice a 0 c)) (.sl k []):=λZ H V w v b=>by cases b;exact .nil _ _ _
def zug:(r:Ty)->r.D->List TS
 |.cons a r,x => .v ⟨a,x.1⟩::zug r x.2
 |.nil,_=>[]
 |.st r,x=>[.v ⟨.st r,x⟩]
 |.tup r,x=>[.v ⟨.tup r,x⟩]
 |.int k,x=>[.v ⟨.int k,x⟩]
 |.bool,x=>[.v ⟨.bool,x⟩]
 |.str,x=>[.v ⟨.str,x⟩]
 |.sl t,x=>[.v ⟨.sl t,x⟩]
 |.ref t,x=>[.v ⟨.ref t,x⟩]
 |.arr n t,x=>[.v ⟨.arr n t,x⟩]
def zru:∀r x,qb (zug r x)=jp r x
 |.cons a r,x=>by simp[zug,qb,TS.den,enc_cells,jp];rw[zru r]
 |.nil,_=>Wab
 |.st r,x=>by simp[zug,qb,TS.den,enc_cells,wc1]
 |.tup r,x=>Wab
 |.int k,x=>Wab
 |.bool,x=>Wab
 |.str,x=>Wab
 |.sl t,x=>Wab
 |.ref t,x=>by simp[zug,qb,TS.den,enc_cells,wc1]
 |.arr n t,x=>by simp[zug,qb,TS.den,enc_cells,wc1]
def zq9:TS->Option (List TS)
 |.v ⟨.st r,x⟩=>some (zug r x)
 |.v ⟨.cons a r,x⟩=>some (zug (.cons a r) x)
 |.agg d=>some d
 |.c (.agg b)=>some (b.toList.map .c)
 |_=>none
def zah:TS->Bool
 |.v d=>Y9 d.t
 |.c (.agg _)=>true
 |.agg _=>true
 |_=>false
def jln{v:Wan}(h:∀a,v ≠ .agg a):(ofV v).cells=[.u v]:=by cases v<;>first|rfl|grind
def jjx{s:TS}{xs:Wam TS}(h:zq9 s=some xs)(e:∀b,s=.c (.agg b)->b.toList.all Value.oneCell'=true):s.den=.agg (qb xs):=by unfold zq9 at h;split at h;{cases h;simp[ zru];rfl};{cases h;simp[ zru];rfl};{cases h;rfl};{rename_i b;cases h;have a:=e b rfl;rw[wdu]at a;simp[TS.den,ofV,zr9,List.flatMap_map];congr 1;have d:∀l:Wam Wan,(∀v∈l,v.oneCell'=true)->l.map PV.u=l.flatMap λv=>(ofV v).cells:=by{intro l;induction l with|nil=>{simp}|cons v l f=>intro a;rw[wc7,wdj,f λu g=>a u X,jln];{rfl};.rintro us rfl;have:=a (.agg us) V;trivial};exact d _ a};grind
def z5j:TS->Bool
 |.c (.agg a)=>a.toList.all Value.oneCell'
 |_=>true
def zgi{s:TS}{xs:Wam TS}(h:zq9 s=some xs)(a:z5j s=true):s.den=.agg (qb xs):=jjx h λb e=>by subst e;exact a
def zcz:Nat->Nat->List TS->Option (List TS×List TS)
 |_,0,a=>some ([],a)
 |0,_,_=>none
 |_+1,_+1,[]=>none
 |f+1,k+1,x::a=>match Nat.ble (Zy x) (k+1)with
  |true=>match zcz f (k+1-Zy x) a with
   |some r=>some (x::r.1,r.2)
   |none=>none
  |false=>match z5j x with
   |true=>match zq9 x with
    |some b=>zcz f (k+1) (b++a)
    |none=>none
   |false=>none
def Vz:∀f k a r,zcz f k a=some r->qb r.1++qb r.2=qb a/\(qb r.1).length=k
 |0,0,a,r,h=>by simp[zcz]at h;cases h;trivial
 |_+1,0,a,r,h=>by simp[zcz]at h;cases h;trivial
 |0,_+1,a,r,h=>by trivial
 |f+1,k+1,[],r,h=>by trivial
 |f+1,k+1,x::a,r,h=>by simp[zcz]at h;split at h;{rename_i d;have g:=wej d;split at h;{rename_i l i;cases h;obtain⟨b,c⟩:=Vz f _ a l i;simp[qb,b,zj1,true_and];omega};grind};{(split at h<;>try (cases h;done));rename_i e;(split at h<;>try (cases h;done));rename_i m j;obtain⟨b,c⟩:=Vz f (k+1) (m++a) r h;refine⟨?_,c⟩;rw[b,zuq];simp[qb,zgi j e,PV.cells]}
def z5o:List TS->List TS
 |[]=>[]
 |x::r=>match Zy x with
  |0=>z5o r
  |_=>x::z5o r
def jd5(xs:List TS):TS:=match z5o xs with
 |[x]=>match zah x with
  |false=>x
  |true => .dead
 |_ => .dead
def zeh(ag:Bool)(xs:List TS):TS:=match ag with
 |true=>match xs with
  |[x]=>match zah x with
   |true=>x
   |false => .agg [x]
  |xs => .agg xs
 |false=>match z5o xs with
  |[x]=>match zah x with
   |false=>x
   |true=>match z5j x,zq9 x with
    |true,some l=>jd5 l
    |_,_ => .dead
  |_ => .dead
def ziw:∀a,qb (z5o a)=qb a
 |[]=>rfl
 |x::r=>by simp[z5o];split;{rename_i h;have:=wdp (by rw[zj1,h]);simp[qb,this,web];exact ziw r};.simp[qb,ziw r]
def zgn{s:TS}(h:zah s=true):s.den=.agg s.den.cells:=by unfold zah at h;split at h;{simp[TS.den,enc_cells];unfold enc mkV;rw[h]};{rfl};{rfl};grind
def Ze{s:TS}(h:zah s=false):s.den.cells=[s.den]:=by
 cases s with
 |v d=>
  simp[zah]at h;simp[TS.den,enc_cells];unfold enc mkV;rw[h];have a:=ju d.t d.x;rw[zht h]at a;match b:jp d.t d.x,a with
  |[c],_=>rfl
 |c v=>cases v<;>first|(simp;rfl)|trivial
 |agg e=>trivial
 |_=>simp[TS.den];rfl
def zsu{xs:Wam TS}(h:jd5 xs ≠ .dead):zah (jd5 xs)=false/\qb xs=[(jd5 xs).den]:=by unfold jd5 at h⊢;split at h;{rename_i x a;split at h;{rename_i b;rw[<- ziw xs,a];simp only[b];exact⟨trivial,by simp[qb,Ze b]⟩};grind};grind
def jiw{ag:Bool}{k:Nat}{xs:Wam TS}{rest:Wam PV}(j:(qb xs).length=k)(c:ag=false->k=1):∃p,Y6 ag k (qb xs++rest)=some p/\Ref p (zeh ag xs).den:=by
 cases ag with
 |true=>refine⟨.agg (qb xs),?_,?_⟩;{unfold Y6;grind};.unfold zeh;simp only;split;{rename_i x;split;{rename_i d;rw[zgn d];simp[qb,wc1];exact Ref.refl _};.exact Ref.refl _};.exact Ref.refl _
 |false=>
  have c:=c rfl;subst c;match i:qb xs,j with
  |[p],_=>
   refine⟨p,by simp[Y6],?_⟩;have a:=ziw xs;rw[i]at a;unfold zeh;simp only;split
   ·rename_i x e;rw[e]at a;split
    ·rename_i d;simp[qb,Ze d]at a;cases a;exact Ref.refl _
    ·split
     ·rename_i l b m;have h:qb l=[p]:=by
       rw[<- a];have:=zgi m b;simp[qb,this,PV.cells]
      by_cases f:jd5 l=.dead
      ·rw[f];exact Ref.unk _
      ·have g:=(zsu f).2;rw[h]at g;cases g;exact Ref.refl _
     ·exact Ref.unk _
   ·exact Ref.unk _
def ofC:(t:Ty)->Value->Option t.D
 |.int k,.int a z=>match ikB k a with
  |true=>some z
  |false=>none
 |.bool,.bool b=>some b
 |.str,.string s=>some s.data.toList
 |.sl _,.slice none 0 0=>some []
 |.ref _,.pointer none=>some none
 |_,_=>none
def ofC_ok{t:Ty}{v:Wan}{x:t.D}(h:ofC t v=some x):Y9 t=false/\(∀a,v ≠ .agg a)/\Ref (.u v) (enc t x):=by unfold ofC at h;split at h;{split at h<;>cases h;rename_i e;rw[z7j e];exact⟨rfl,(λa e=>X),Ref.refl _⟩};{cases h;exact⟨rfl,(λa e=>X),Ref.refl _⟩};{cases h;exact⟨rfl,(λa e=>X),Ref.refl _⟩};{cases h;exact⟨rfl,(λa e=>X),wbp _ _ _⟩};{cases h;exact⟨rfl,(λa e=>X),Ref.refl _⟩};grind
def zaj(t:Ty):TS->Option t.D
 |.v d=>d.as t
 |.c v=>ofC t v
 |_=>none
def zp4{α:Type}(f:TS->Option α)(ag:Bool)(w:Nat):Nat->List TS->Option (List α)
 |0,[]=>some []
 |0,_=>none
 |n+1,b=>match zcz 512 w b with
  |none=>none
  |some r=>match f (zeh ag r.1)with
   |none=>none
   |some a=>match zp4 f ag w n r.2 with
    |none=>none
    |some l=>some (a::l)
def zfb(s:TS):Option (List TS):=match z5j s with
 |true=>zq9 s
 |false=>none
def jji{α:Type}(n:Nat):Option (List α)->Option (Arr n α)
 |some l=>match h:Nat.beq l.length n with
  |true=>some ⟨l,wcn h⟩
  |false=>none
 |none=>none
mutual
def toT:(t:Ty)->TS->Option t.D
 |.int k,s=>zaj (.int k) s
 |.bool,s=>zaj .bool s
 |.str,s=>zaj .str s
 |.sl t,s=>zaj (.sl t) s
 |.ref t,s=>match s with
  |.rd d=>match d.as t with
   |some x=>some (some x)
   |none=>none
  |s=>zaj (.ref t) s
 |.nil,s=>none
 |.cons _ _,s=>none
 |.st r,s=>match zaj (.st r) s with
  |some x=>some x
  |none=>match zfb s with
   |some a=>toR r a
   |none=>none
 |.arr n t,s=>match zaj (.arr n t) s with
  |some x=>some x
  |none=>match zfb s with
   |some a=>jji n (zp4 (toT t) (Y9 t) (wid t) n a)
   |none=>none
 |.tup r,s=>match s with
  |.tup a=>toL r a
  |s=>zaj (.tup r) s
def toR:(r:Ty)->List TS->Option r.D
 |.nil,[]=>some ()
 |.cons a r,b=>match zcz 512 (wid a) b with
  |none=>none
  |some q=>match toT a (zeh (Y9 a) q.1)with
   |none=>none
   |some x=>match toR r q.2 with
    |none=>none
    |some y=>some (x,y)
 |_,_=>none
def toL:(r:Ty)->List TS->Option r.D
 |.nil,[]=>some ()
 |.cons a r,x::b=>match toT a x with
  |none=>none
  |some p=>match toL r b with
   |none=>none
   |some y=>some (p,y)
 |_,_=>none
end
def TOk(s:TS)(t:Ty)(x:t.D):Prop:=RefL s.den.cells (jp t x)/\Ref s.den (enc t x)
def zb9{t:Ty}{s:TS}{x:t.D}(h:zaj t s=some x):TOk s t x:=by
 unfold zaj at h;split at h;{rename_i d;have:=wag h;subst this;unfold TOk;simp[TS.den,enc_cells];exact⟨RefL.refl _,Ref.refl _⟩}
 .rename_i v;obtain⟨a,i,b⟩:=ofC_ok h;(have e:ofV v=.u v:=by cases v<;>first|rfl|grind);unfold TOk;simp[TS.den];rw[e];refine⟨?_,b⟩;have g:jp t x=[enc t x]:=by
   have f:=ju t x;rw[zht a]at f;unfold enc mkV;rw[a];match j:jp t x,f with
   |[c],_=>rfl
  rw[g];exact RefL.cons b RefL.nil
 grind
def zbp{ag:Bool}{xs:Wam TS}(h:zeh ag xs ≠ .dead):(zeh ag xs).den.cells=qb xs:=by unfold zeh at h⊢;cases ag with|true=>{simp only at h⊢;split;{rename_i x;split;{simp[qb,wc1]};rfl};rfl}|false=>simp only at h⊢;split at h;{rename_i x c;rw[<- ziw xs,c];split at h;{rename_i b;simp[qb,wc1,b]};.rename_i b;split at h;{rename_i l a e;have d:=zsu h;have f:=Ze d.1;simp[b,a,e,f];simp[qb,wc1,zgi e a,PV.cells,d.2]};grind};grind
def jcf(t:Ty):toT t .dead=none:=by cases t<;>simp[toT,zaj,zfb,z5j,zq9]
def ja1{t:Ty}{f:TS->Wal t.D}(g:∀s x,f s=some x->TOk s t x)(k:f .dead=none):∀n c l,zp4 f (Y9 t) (wid t) n c=some l->RefL (qb c) (l.flatMap (jp t))
 |0,[],l,h=>by simp[zp4]at h;cases h;simp[qb,List.flatMap_nil];exact RefL.nil
 |0,_::_,l,h=>by trivial
 |n+1,c,l,h=>by simp[zp4]at h;(split at h<;>try (cases h;done));rename_i r o;(split at h<;>try (cases h;done));rename_i a j;(split at h<;>try (cases h;done));rename_i p m;cases h;obtain⟨i,q⟩:=Vz _ _ _ _ o;have b:zeh (Y9 t) r.1 ≠ .dead:=λe=>X;have d:=(g _ _ j).1;rw[zbp b]at d;rw[wdj,<- i];exact RefL.append d (ja1 g k n r.2 p m)
def zzm{α:Type}{n:Nat}{o:Wal (Wam α)}{v:Arr n α}(h:jji n o=some v):o=some v.l:=by unfold jji at h;grind
def zi0{s:TS}{xs:Wam TS}(h:zfb s=some xs):s.den=.agg (qb xs):=by unfold zfb at h;split at h;{exact zgi h U};grind
mutual
theorem zb7:∀(t:Ty)(s:TS)(x:t.D),toT t s=some x->TOk s t x
 |.int k,s,x,h=>zb9 (by simpa only [toT]using h)
 |.bool,s,x,h=>zb9 (by simpa only [toT]using h)
 |.str,s,x,h=>zb9 (by simpa only [toT]using h)
 |.sl t,s,x,h=>zb9 (by simpa only [toT]using h)
 |.ref t,s,x,h=>by simp only[toT]at h;split at h;{rename_i d;split at h<;>cases h;rename_i y e;have:=wag e;subst this;unfold TOk;simp only[TS.den];exact⟨RefL.refl _,Ref.refl _⟩};.exact zb9 h
 |.nil,s,x,h=>by simp[toT]at h
 |.cons _ _,s,x,h=>by simp[toT]at h
 |.st r,s,x,h=>by simp only[toT]at h;split at h;{cases h;exact zb9 (by assumption)};{(split at h<;>try (cases h;done));rename_i b c;have a:=jm0 r b x h;unfold TOk;rw[zi0 c];exact⟨a,Ref.agg a⟩}
 |.arr n t,s,x,h=>by simp only[toT]at h;split at h;{cases h;exact zb9 (by assumption)};{(split at h<;>try (cases h;done));rename_i b c;have a:=ja1 (λs x=>zb7 t s x) (jcf t) _ _ _ (zzm h);unfold TOk;rw[zi0 c];exact⟨a,Ref.agg a⟩}
 |.tup r,s,x,h=>by simp only[toT]at h;split at h;{rename_i b;have a:=jm8 r b x h;unfold TOk;simp only[TS.den];exact⟨RefL.cons (Ref.tup a) RefL.nil,Ref.tup a⟩};.exact zb9 h
theorem jm0:∀(r:Ty)(xs:Wam TS)(x:r.D),toR r xs=some x->RefL (qb xs) (jp r x)
 |.nil,xs,x,h=>by cases xs with|nil=>{simp only[qb,jp];exact RefL.nil}|cons _ _=>simp[toR]at h
 |.cons a r,xs,x,h=>by simp only[toR]at h;(split at h<;>try (cases h;done));rename_i q g;(split at h<;>try (cases h;done));rename_i p c;(split at h<;>try (cases h;done));rename_i y i;cases h;obtain⟨f,j⟩:=Vz _ _ _ _ g;have b:zeh (Y9 a) q.1 ≠ .dead:=λe=>by{rw[e,jcf]at c;cases c};have d:=(zb7 a _ _ c).1;rw[zbp b]at d;simp only[jp];rw[<- f];exact RefL.append d (jm0 r q.2 y i)
 |.int k,xs,x,h=>by simp[toR]at h
 |.bool,xs,x,h=>by simp[toR]at h
 |.str,xs,x,h=>by simp[toR]at h
 |.sl t,xs,x,h=>by simp[toR]at h
 |.ref t,xs,x,h=>by simp[toR]at h
 |.st r,xs,x,h=>by simp[toR]at h
 |.arr n t,xs,x,h=>by simp[toR]at h
 |.tup r,xs,x,h=>by simp[toR]at h
theorem jm8:∀(r:Ty)(xs:Wam TS)(x:r.D),toL r xs=some x->RefL (zq xs) (Qd r (jp r x))
 |.nil,xs,x,h=>by cases xs with|nil=>{simp only[zq,Qd];exact RefL.nil}|cons _ _=>simp[toL]at h
 |.cons a r,xs,x,h=>by cases xs with|nil=>{simp[toL]at h}|cons z xs=>simp only[toL]at h;(split at h<;>try (cases h;done));rename_i p c;(split at h<;>try (cases h;done));rename_i y d;cases h;simp only[zq,jp,Qd];have b:=ju a p;rw[wfj b,wfa b];exact RefL.cons (zb7 a z p c).2 (jm8 r xs y d)
 |.int k,xs,x,h=>by simp[toL]at h
 |.bool,xs,x,h=>by simp[toL]at h
 |.str,xs,x,h=>by simp[toL]at h
 |.sl t,xs,x,h=>by simp[toL]at h
 |.ref t,xs,x,h=>by simp[toL]at h
 |.st r,xs,x,h=>by simp[toL]at h
 |.arr n t,xs,x,h=>by simp[toL]at h
 |.tup r,xs,x,h=>by simp[toL]at h
end
inductive RK where
 |mp (kt vt:Ty)
 |si
@[reducible] def RK.ty:RK->Ty
 |.mp a b => .sl (.st (.cons a (.cons b .nil)))
 |.si => .st (.cons .str (.cons (.int .i64) .nil))
def RK.eqB:RK->RK->Bool
 |.mp a b,.mp c d=>a.eqB c && b.eqB d
 |.si,.si=>true
 |_,_=>false
def wba{a b:RK}(h:a.eqB b=true):a=b:=by (cases a<;>cases b<;>simp only[RK.eqB]at h<;>first|cases h;done|skip);{simp[wco]at h;rw[Ty.eqB_eq h.1,Ty.eqB_eq h.2]};rfl
def RK.dflt:(k:RK)->k.ty.D
 |.mp _ _=>[]
 |.si=>([],0,())
def uV:PV->Value
 |.u v=>v
 |_=>undef
def oVs(t:Ty)(x:t.D):List Value:=(jp t x).map uV
def oV(t:Ty)(x:t.D):Value:=match Y9 t with
 |true => .agg (oVs t x).toArray
 |false=>(oVs t x).headD undef
def plT:Ty->Bool
 |.int _=>true
 |.bool=>true
 |.str=>true
 |.arr _ t=>plT t
 |.nil=>true
 |.cons a r=>plT a && plT r
 |.st r=>plT r
 |_=>false
def z1a:∀t x,plT t=true->∀c∈jp t x,c=.u (uV c)
 |.int k,x,h,c,b=>by simp[jp,wcr]at b;subst b;rfl
 |.bool,x,h,c,b=>by simp[jp,wcr]at b;subst b;rfl
 |.str,x,h,c,b=>by simp[jp,wcr]at b;subst b;rfl
 |.sl _,x,h,c,b=>by trivial
 |.ref _,x,h,c,b=>by trivial
 |.arr n t,x,h,c,b=>by simp[plT]at h;simp only[jp]at b;obtain⟨y,_,d⟩:=wdm.1 b;exact z1a t y h c d
 |.nil,x,h,c,b=>by trivial
 |.cons a r,x,h,c,b=>by simp[plT,wco]at h;simp[jp,wcu]at b;rcases b with b|b;{exact z1a a x.1 h.1 c b};.exact z1a r x.2 h.2 c b
 |.st r,x,h,c,b=>by simp[plT]at h;simp[jp]at b;exact z1a r x h c b
 |.tup _,x,h,c,b=>by trivial
def zz2(t:Ty)(x:t.D)(h:plT t=true):enc t x=ofV (oV t x):=by
 have e:=z1a t x h;unfold enc mkV oV;cases d:Y9 t with
 |true=>simp[ofV,oVs,wd3];congr 1;refine(we7 V λi f g=>?_);grind
 |false=>
  simp only;have b:=ju t x;rw[zht d]at b;match a:jp t x,b with
  |[c],_=>
   have:=e c X;simp[List.headD_cons,oVs,a,wc7,wea];cases t<;>first
    |(simp[jp,wfk,and_true]at a;subst a;rfl)
    |(simp[plT]at h;done)
    |trivial
def RK.den:(k:RK)->k.ty.D->PBody
 |.mp a b,l=>jj2 (l.map λe=>(oV a e.1,oV b e.2.1))
 |.si,x => .raw true [] λ_ o _=>o=.stringIter ⟨⟨x.1⟩⟩ x.2.1.toNat
def RK.den_raw(k:RK)(x:k.ty.D):∃p φ,k.den x=.raw p [] φ:=by cases k;{exact⟨_,_,rfl⟩};.exact⟨_,_,rfl⟩
abbrev Hole:=Option Nat
inductive BD where
 | row (tid : TypeId) (t : Ty) (l : List t.D)   -- elements that are told
 | rowx (tid : TypeId) (k : Nat) (xs : List TS) -- elements, one by one
 | box (tid : TypeId) (xs : List TS)            -- parts
 | obj (k : RK) (x : k.ty.D)                    -- no cells
 | que (tid : TypeId) (t : Ty) (l : List t.D)   -- a row's elements from one on
 | rows (tid it : TypeId) (t : Ty) (l : List (List t.D)) (kv : Nat) (h : Hole) -- elements that are own rows
 | mrows (kt : Ty) (it : TypeId) (t : Ty) (es : List (kt.D × List t.D × Unit)) (kv : Nat) (h : Hole) -- a map of own rows
 | iter (mid mver : Nat) (mask : List Bool) (last : Option Nat) -- a walk over such a map
def Hole.is(h:Hole)(j:Nat):Bool:=match h with
 |some x=>Nat.beq j x
 |none=>false
def Hole.cell(i v:Nat)(h:Hole)(j:Nat):PV:=match h.is j with
 |true => .unk
 |false => .ps (.c i j) v
def BD.den(i v:Nat):BD->PBody
 |.row a t l => .row a (wid t) l.length (l.flatMap (jp t))
 |.rowx a k f => .row a k f.length (qb f)
 |.box a f => .box a (qb f)
 |.obj k x=>k.den x
 |.que a t l => .que a (wid t) l.length (l.flatMap (jp t))
 |.rows a _ _ l _ h => .row a 1 l.length ((range l.length).map (h.cell i v))
 |.mrows j _ _ d _ h=>V3 (d.map λe=>oV j e.1) (range d.length) d.length ((range d.length).map (h.cell i v))
 |.iter g c b last=>itB (.o g) c b last
def BD.ch:BD->Nat->Option PBody
 |.rows _ a t l _ h,j=>match h.is j with
  |true=>none
  |false=>(l[j]?).map λr=> .row a (wid t) r.length (r.flatMap (jp t))
 |.mrows _ a t b _ h,j=>match h.is j with
  |true=>none
  |false=>(b[j]?).map λe=> .row a (wid t) e.2.1.length (e.2.1.flatMap (jp t))
 |_,_=>none
def BD.kv:BD->Nat
 |.rows _ _ _ _ k _=>k
 |.mrows _ _ _ _ k _=>k
 |_=>0
def BD.flat:BD->Bool
 |.rows _ _ _ _ _ _=>false
 |.mrows _ _ _ _ _ _=>false
 |_=>true
structure GB where
 ver:Nat
 b:Option BD
def GB.cv(x:GB):Nat:=match x.b with
 |some b=>x.ver+b.kv
 |none=>x.ver
def GB.flat(x:GB):Bool:=match x.b with
 |some b=>b.flat
 |none=>true
abbrev EF:=Nat->TS
abbrev EG:=Nat->GB
def EF.put(E:EF)(d:Option Nat)(s:TS):EF:=λt=>match d with
 |none=>E t
 |some d=>match Nat.beq d t with
  |true=>s
  |false=>E t
def EG.empty:EG:=λ_=>⟨0,none⟩
def EG.set(G:EG)(id:Nat)(x:GB):EG:=λi=>match Nat.beq i id with
 |true=>x
 |false=>G i
def Ju(E:EF):PFrame:=λt=>(E t).den
def vz(i:Nat)(x:GB):zm8:=⟨x.ver,x.b.map (BD.den i x.cv)⟩
def zcc(x:GB)(j:Nat):zm8:=⟨x.cv,x.b.bind λb=>b.ch j⟩
def wa6{x:GB}(h:x.flat=true):x.cv=x.ver:=by obtain⟨a,b⟩:=x;cases b with|none=>{rfl}|some b=>cases b<;>first|rfl|cases h
def GB.ver_le(x:GB):x.ver<=x.cv:=by obtain⟨a,b⟩:=x;cases b with|none=>{exact wcs _}|some b=>exact Nat.le_add_right _ _
def zsq{x:GB}(h:x.flat=true)(j:Nat):zcc x j=⟨x.ver,none⟩:=by unfold zcc;rw[wa6 h];obtain⟨a,b⟩:=x;cases b with|none=>{rfl}|some b=>cases b<;>first|rfl|cases h
def qp(G:EG)(R:PHeap):PHeap
 |.o i=>vz i (G i)
 |.c i j=>zcc (G i) j
 |.r x=>R x
def Qx(x:GB):Nm->zm8
 |.o i=>vz i x
 |.c _ j=>zcc x j
 |.r _=>⟨0,none⟩
def jvi{G:EG}{R:Wau}{k:Nm}{i:Nat}(h:k.rt=some i):qp G R k=Qx (G i) k:=by cases k<;>cases h<;>rfl
def zlz(E:EF)(d:Wal Nat)(s:TS):Ju (E.put d s)=(Ju E).put d s.den:=by funext t;unfold Ju EF.put PFrame.put;cases d with|none=>{simp}|some d=>simp only;by_cases e:d=t;{simp_all};.have:Nat.beq d t=false:=by{cases h:Nat.beq d t;rfl;simp_all};grind
def zlp(H:PHeap)(id:Nat)(x:GB):PHeap:=λk=>if k.rt=some id then Qx x k else H k
def jah (G : EG) (R : Wau) (id : Nat) (x : GB) : qp (G.set id x) R = zlp (qp G R) id x := by
  funext k
  unfold zlp EG.set
  cases k with
  | o i => by_cases e : i = id
           · subst e; simp [Nm.rt, qp, Qx]
           · have : Nat.beq i id = false := by cases h : Nat.beq i id; rfl; simp_all
             simp [Nm.rt, qp, Qx, e, this]
  | c i j => by_cases e : i = id
             · subst e; simp [Nm.rt, qp, Qx]
             · have : Nat.beq i id = false := by cases h : Nat.beq i id; rfl; simp_all
               simp [Nm.rt, qp, Qx, e, this]
  | r x => rfl
def evE(E:EF):Operand->TS
 |.tmp t=>E t
 |.const v => .c v
 |.global _ => .dead
 |.func f => .fn (.func f) [] []
def zxe(E:EF)(x:War):evP (Ju E) x=(evE E x).den:=by cases x<;>simp[evP,evE,Ju,TS.den,zq]
inductive HS where
 |v (t:Ty)
 |rd (t:Ty)
 |own (X:Nat)
 |pt (X off:Nat)
 |dead
 |ci (k:IntKind) (z:Int)
 |cb (b:Bool)
 |fn (f:FuncId) (a b:List HS)
 |agg (xs:List HS)
 |tup (xs:List HS)
inductive HB where
 |row (tid:TypeId) (t:Ty)
 |rowx (tid:TypeId) (k:Nat) (xs:List HS)
 |box (tid:TypeId) (xs:List HS)
 |obj (k:RK)
 |que (tid:TypeId) (t:Ty)
 |rows (tid it:TypeId) (t:Ty)
 |mrows (kt:Ty) (it:TypeId) (t:Ty)
 |iter (X:Nat)
structure LH where
 slots:List (Nat×HS)
 heap:List (Nat×HB)
 nx:Nat
inductive MV where
 |id (i ver:Nat)
 |nil
def jl5:Value->Bool
 |.slice none 0 0=>true
 |_=>false
def zxo{v:Wan}(h:jl5 v=true):v=.slice none 0 0:=by unfold jl5 at h;grind
mutual
def jtn:HS->Nat
 |.v t=>wid t
 |.agg a=>jw5 a
 |_=>1
def jw5:List HS->Nat
 |[]=>0
 |h::a=>jtn h+jw5 a
end
def zyl:HS->Bool
 |.v t=>Y9 t
 |.agg _=>true
 |_=>false
abbrev PR:=List Dyn×List (Nat×MV)
def wak(a b:PR):PR:=(a.1++b.1,a.2++b.2)
def jl6(a b:Option PR):Option PR:=match a with
 |none=>none
 |some x=>match b with
  |none=>none
  |some y=>some (wak x y)
def zde{a b:Wal PR}{r:PR}(h:jl6 a b=some r):∃x y,a=some x/\b=some y/\r=wak x y:=by unfold jl6 at h;grind
mutual
def Vs:HS->TS->Option PR
 |.v t,s=>match toT t s with
  |some x=>some ([⟨t,x⟩],[])
  |none=>none
 |.rd t,s=>match s with
  |.rd d=>match d.as t with
   |some x=>some ([⟨t,x⟩],[])
   |none=>none
  |_=>none
 |.own X,s=>match s with
  |.own id e=>some ([],[(X,.id id e)])
  |.c v=>match jl5 v with
   |true=>some ([],[(X,.nil)])
   |false=>none
  |_=>none
 |.pt X j,s=>match s with
  |.pt id g e=>match Nat.beq j g with
   |true=>some ([],[(X,.id id e)])
   |false=>none
  |_=>none
 |.dead,_=>some ([],[])
 |.ci k z,s=>match s with
  |.c (.int o p)=>match (Ty.int k).eqB (.int o) && decide (z=p)with
   |true=>some ([],[])
   |false=>none
  |_=>none
 |.cb b,s=>match s with
  |.c (.bool h)=>match b == h with
   |true=>some ([],[])
   |false=>none
  |_=>none
 |.fn f a b,s=>match s with
  |.fn (.func n) m h=>match Nat.beq f n with
   |true=>jl6 (zcq a m) (zcq b h)
   |false=>none
  |_=>none
 |.agg i,s=>match zfb s with
  |some l=>zb0 i l
  |none=>none
 |.tup i,s=>match s with
  |.tup l=>zcq i l
  |_=>none
def zcq:List HS->List TS->Option PR
 |[],[]=>some ([],[])
 |h::a,x::b=>jl6 (Vs h x) (zcq a b)
 |_,_=>none
def zb0:List HS->List TS->Option PR
 |[],[]=>some ([],[])
 |h::a,b=>match zcz 512 (jtn h) b with
  |none=>none
  |some q=>match zeh (zyl h) q.1 with
   |.dead=>none
   |s=>jl6 (Vs h s) (zb0 a q.2)
 |[],_::_=>none
end
mutual
def zol:HS->Nat
 |.v _=>1
 |.rd _=>1
 |.fn _ a b=>ze2 a+ze2 b
 |.agg c=>ze2 c
 |.tup c=>ze2 c
 |_=>0
def ze2:List HS->Nat
 |[]=>0
 |h::a=>zol h+ze2 a
end
def nth(ds:List Dyn)(i:Nat):Dyn:=ds.getD i ⟨.nil,()⟩
mutual
def unT(ds:List Dyn):HS->Nat->TS
 |.v _,j => .v (nth ds j)
 |.rd _,j => .rd (nth ds j)
 |.own X,_ => .own X 1
 |.pt X d,_ => .pt X d 1
 |.dead,_ => .dead
 |.ci k z,_ => .c (.int k z)
 |.cb b,_ => .c (.bool b)
 |.fn f a b,j => .fn (.func f) (zl0 ds a j) (zl0 ds b (j+ze2 a))
 |.agg e,j => .agg (zl0 ds e j)
 |.tup e,j => .tup (zl0 ds e j)
def zl0(ds:List Dyn):List HS->Nat->List TS
 |[],_=>[]
 |h::a,j=>unT ds h j::zl0 ds a (j+zol h)
end
def jw8:PR:=([],[])
def NmOk(b:Nat):Nm->Prop
 |.o i=>i<b
 |.c _ _=>False
 |.r _=>True
inductive NmAll(S:Nm->Nat->Prop):PV->Prop
 |noP {p:PV}(h:NoP p):NmAll S p
 |unk:NmAll S .unk
 |ps {i:Nm}{ver:Nat}(h:S i ver):NmAll S (.ps i ver)
 |qs {i:Nm}{off k ver:Nat}(h:S i ver):NmAll S (.qs i off k ver)
 |pp {i:Nm}{off ver:Nat}(h:S i ver):NmAll S (.pp i off ver)
 |fn {f:Fn}{x y:List PV}(hx:∀p∈x,NmAll S p) (hy:∀p∈y,NmAll S p):NmAll S (.fn f x y)
 |agg {xs:List PV}(h:∀p∈xs,NmAll S p):NmAll S (.agg xs)
 |tup {xs:List PV}(h:∀p∈xs,NmAll S p):NmAll S (.tup xs)
abbrev IdOk(b:Nat):=NmAll λi _=>NmOk b i
abbrev Fl:=NmAll λ_ _=>True
def NmAll.mono{S T:Nm->Nat->Prop}(a:∀i v,S i v->T i v){p:PV}(h:NmAll S p):NmAll T p:=by induction h with|noP h=>{exact .noP h}|unk=>{exact .unk}|ps h=>{exact .ps (a _ _ h)}|qs h=>{exact .qs (a _ _ h)}|pp h=>{exact .pp (a _ _ h)}|fn _ _ c d=>{exact .fn c d}|agg _ b=>{exact .agg b}|tup _ b=>exact .tup b
def IdOk.fl{b:Nat}{p:PV}(h:IdOk b p):Fl p:=NmAll.mono (λ_ _ _=>trivial) h
def NmAll.cells{S:Nm->Nat->Prop}{p:PV}(h:NmAll S p):∀c∈p.cells,NmAll S c:=by cases h with|noP h=>{exact λc a=> .noP (h.cell a)}|agg h=>{exact h}|unk=>{intro c a;simp[PV.cells,wcr]at a;subst a;exact .unk}|ps h=>{intro c a;simp[PV.cells,wcr]at a;subst a;exact .ps h}|qs h=>{intro c a;simp[PV.cells,wcr]at a;subst a;exact .qs h}|pp h=>{intro c a;simp[PV.cells,wcr]at a;subst a;exact .pp h}|fn b d=>{intro c a;simp[PV.cells,wcr]at a;subst a;exact .fn b d}|tup h=>intro c a;simp[PV.cells,wcr]at a;subst a;exact .tup h
def zj4 (v : Wan) : NoP (ofV v) := by
  cases v <;> first
    | exact .u _
    | (refine .agg _ fun c a => ?_
       obtain ⟨z, _, rfl⟩ := wc6.1 a
       exact .u z)
mutual
theorem zap:∀s:TS,Fl s.den
 |.v d=>by simp only[TS.den];exact .noP (zcj _ _)
 |.c v=>by simp only[TS.den];exact .noP (zj4 v)
 |.own _ _=>by simp only[TS.den];exact .ps trivial
 |.q _ _ _ _=>by simp only[TS.den];exact .qs trivial
 |.pt _ _ _=>by simp only[TS.den];exact .pp trivial
 |.elt _ _ _ _ _=>by simp only[TS.den];exact .pp trivial
 |.kid _ _ _=>by simp only[TS.den];exact .ps trivial
 |.kel _ _ _ _ _ _=>by simp only[TS.den];exact .pp trivial
 |.rd d=>by simp only[TS.den];exact .noP (.rp _ (za _ _))
 |.dead=>by simp only[TS.den];exact .unk
 |.fn f a b=>by simp only[TS.den];exact .fn (zrc a) (zrc b)
 |.agg e=>by simp only[TS.den];exact .agg (zp6 e)
 |.tup e=>by simp only[TS.den];exact .tup (zrc e)
theorem zrc:∀a:Wam TS,∀p∈zq a,Fl p
 |[],p,h=>by simp[zq]at h
 |x::a,p,h=>by simp only[zq,wda]at h;rcases h with rfl|h;{exact zap x};.exact zrc a p h
theorem zp6:∀a:Wam TS,∀p∈qb a,Fl p
 |[],p,h=>by simp[qb]at h
 |x::a,p,h=>by simp only[qb,wcu]at h;rcases h with h|h;{exact(zap x).cells p h};.exact zp6 a p h
end
def FlB(x:zm8):Prop:=∀a,x.body=some a->∀c∈a.cs,Fl c
def BD_fl(i v:Nat)(b:BD):∀c∈(b.den i v).cs,Fl c:=λc a=>by have flat:∀{t:Ty}{l:Wam t.D},c∈l.flatMap (jp t)->Fl c:=λ{t l}h=>by{obtain⟨x,_,o⟩:=wdm.1 h;exact .noP (za t x c o)};have cell:∀{n:Nat}{h:Hole},c∈(range n).map (h.cell i v)->Fl c:=λ{n h}m=>by{obtain⟨j,_,rfl⟩:=wc6.1 m;unfold Hole.cell;split;{exact .unk};.exact .ps trivial};cases b with|row d t l=>{exact flat a}|rowx d k e=>{exact zp6 e c a}|box d e=>{exact zp6 e c a}|obj k x=>{cases k<;>simp[BD.den,RK.den,jj2,PBody.cs]at a}|que d t l=>{exact flat a}|rows d p t l kv h=>{exact cell a}|mrows s p t r kv h=>{exact cell a}|iter q f n g=>simp[BD.den,itB,PBody.cs,wcr]at a;subst a;exact .ps trivial
def ji3(i:Nat)(x:GB):FlB (vz i x):=λd h c a=>by obtain⟨b,_,rfl⟩:=wct.1 h;exact BD_fl i _ b c a
def jio{b:BD}{j:Nat}{bd:PBody}(h:b.ch j=some bd):∀c∈bd.cs,NoP c:=by have g:∀{a:Wap}{t:Ty}{r:Wam t.D},PBody.row a (wid t) r.length (r.flatMap (jp t))=bd->∀c∈bd.cs,NoP c:=λ{a t r}e c d=>by{subst e;obtain⟨x,_,f⟩:=wdm.1 d;exact za t x c f};unfold BD.ch at h;grind
def jid(x:GB)(j:Nat):FlB (zcc x j):=λd h c a=>by obtain⟨b,_,h⟩:=wdi.1 h;exact .noP (jio h c a)
def jwi(x:GB)(k:Nm):FlB (Qx x k):=by cases k with|o i=>{exact ji3 i x}|c i j=>{exact jid x j}|r y=>intro a h;cases h
structure FlW(W:Env)(F:PFrame)(H:PHeap):Prop where
 g:∀i,Fl (W.G i)
 f:∀t,Fl (F t)
 h:∀k,FlB (H k)
section
variable{Z:ZM}{H H' : PHeap}{V V' : Nm → Value}{w:World}{b:Nat}
def Rp.keep{S:Nm->Nat->Prop}{p:PV}{v:Wan}(h:Rp Z H V w p v)(hi:NmAll S p)
  (hz:∀c,c<w.heap.size->¬PZ Z H V c->¬PZ Z H' V' c)
  (j:∀i b,S i b->b<=(H i).ver->b<=(H' i).ver/\((H' i).body.isSome=true->(H' i).ver=b->(H i).body.isSome=true/\(H i).ver=b/\V' i=V i)):Rp Z H' V' w p v:=by
 induction hi generalizing v with
 |noP x=>exact Rp.noP h x hz
 |unk=>exact .unk v
 |ps e=>
  cases h with|ps _ _ _ f h=>exact .ps _ _ v (j _ _ e f).1 λs t=>X
 |qs e=>
  cases h with|qs _ _ _ _ _ f h=>exact .qs _ _ _ _ v (j _ _ e f).1 λs t=>X
 |pp e=>
  cases h with|pp _ _ _ _ f h=>exact .pp _ _ _ v (j _ _ e f).1 λs t=>X
 |fn _ _ o q=>
  cases h with|fn _ _ _ y vb l m u g=>exact .fn _ _ _ y vb l m (λi p v a d=>o p (wcq a) (u i p v a d)) (λi p v a d=>q p (wcq a) (g i p v a d))
 |agg _ n=>cases h with|agg _ r k h=>exact .agg _ r k λi p v a d=>n p (wcq a) (h i p v a d)
 |tup _ n=>cases h with|tup _ r k h=>exact .tup _ r k λi p v a d=>n p (wcq a) (h i p v a d)
def jq6(Z:ZM)(H H':PHeap)(V V':Nm->Value)(w:World)(X:Nat):MV->Prop
 |.id i b=>(∀v,Rp Z H V w (.ps (.o i) b) v->Rp Z H' V' w (.ps (.o X) 1) v)/\∀a v,Rp Z H V w (.pp (.o i) a b) v->Rp Z H' V' w (.pp (.o X) a 1) v
 |.nil=>Rp Z H' V' w (.ps (.o X) 1) (.slice none 0 0)
def zpv{a c:Wam Dyn}{d:Dyn}{ds:Wam Dyn}(h:ds=a++d::c):nth ds a.length=d:=by subst h;unfold nth;simp
def RpL.append{ps qs:Wam PV}{vs us:Wam Wan}(a:RpL Z H V w ps vs)(d:RpL Z H V w qs us):RpL Z H V w (ps++qs) (vs++us):=⟨by simp[a.1,d.1],λi p v b c=>by
 by_cases e:i<ps.length;{rw[wcx e]at b;rw[wcx (by rw[<- a.1];omega)]at c;exact a.2 i p v b c};.rw[wcz U]at b;rw[wcz (by rw[<- a.1];omega),<- a.1]at c;exact d.2 _ p v b c⟩
def RpL.split{ps qs:Wam PV}{vs:Wam Wan}(h:RpL Z H V w (ps++qs) vs):RpL Z H V w ps (vs.take ps.length)/\RpL Z H V w qs (vs.drop ps.length):=by have d:=h.1;refine⟨⟨X,λi p v a b=>?_⟩,⟨X,λi p v a b=>?_⟩⟩;{have c:=(wcl.1 a).1;refine h.2 i p v X ?_;grind};.refine h.2 (ps.length+i) p v X ?_;grind
def jnh{xs:Wam PV}{v:Wan}(h:Rp Z H V w (.agg xs) v):∃a,v=.agg a/\RpL Z H V w xs a.toList:=by cases h with|agg _ a d h=>exact⟨a,rfl,U,λi p u b c=>h i p u b X⟩
def z3p{xs:Wam PV}{vs:Array Wan}(h:RpL Z H V w xs vs.toList):Rp Z H V w (.agg xs) (.agg vs) :=.agg _ _ (by simpa using h.1) λi p v a b=>h.2 i p v a X
def jpj{s t:TS}(g:∀v,Rp Z H V w s.den v->Rp Z H' V' w t.den v)(j:zah s=zah t){vs:Wam Wan}(h:RpL Z H V w s.den.cells vs):RpL Z H' V' w t.den.cells vs:=by
 cases a:zah s
 .have b:=Ze a;have c:=Ze (j▸a);rw[b]at h;rw[c];match vs,h with
  |[v],h=>exact⟨rfl,λi m u d f=>by
   cases i with
   |zero=>simp at d f;subst d f;exact g _ (h.2 0 _ v rfl rfl)
   |succ i=>grind⟩
  |[],h=>have:=h.1;grind
  |_::_::_,h=>have:=h.1;grind
 .have b:=zgn a;have c:=zgn (j▸a);have k:Rp Z H V w s.den (.agg vs.toArray):=by{rw[b];exact z3p U};have:=g _ k;rw[c]at this;obtain⟨us,e,l⟩:=jnh this;grind
def joi{ds pre post:Wam Dyn}{h:HS}{s:TS}{r:PR}(a:Vs h s=some r)(b:ds=pre++r.1++post)(e:h ≠ .dead):zah (unT ds h pre.length)=zyl h:=by cases h with|v t=>{simp[Vs]at a;split at a<;>cases a;rename_i x f;simp[unT,zah,zyl];rw[zpv (c:=post) (d:=⟨t,x⟩) X]}|dead=>{rfl}|_=>simp[unT,zah,zyl]
def TreeOk(Z:ZM)(H H':PHeap)(V V':Nm->Value)(w:World)(ds:List Dyn)(h:HS)(s:TS)(r:PR)(j:Nat):Prop:=
 r.1.length=zol h/\(∀v,Rp Z H V w s.den v->Rp Z H' V' w (unT ds h j).den v)
def juq{s:TS}{xs:Wam TS}(h:zfb s=some xs){v:Wan}(a:Rp Z H V w s.den v):∃b,v=.agg b/\RpL Z H V w (qb xs) b.toList:=by rw[zi0 h]at a;exact jnh a
mutual
theorem je0(q:∀p v,NoP p->Rp Z H V w p v->Rp Z H' V' w p v)(ds:Wam Dyn):∀(h:HS)(s:TS)(r:PR)(pre post:Wam Dyn),Vs h s=some r->ds=pre++r.1++post->(∀m∈r.2,jq6 Z H H' V V' w m.1 m.2)->TreeOk Z H H' V V' w ds h s r pre.length
 |.v t,s,r,pre,post,e,g,l=>by simp only[Vs]at e;split at e<;>cases e;rename_i x u;refine⟨rfl,λv j=>?_⟩;simp only[unT,TS.den];rw[zpv (a:=pre) (c:=post) (d:=⟨t,x⟩) (by rw[g];simp)];exact q _ _ (zcj _ _) ((zb7 _ _ _ u).2 _ _ _ _ _ j)
 |.rd t,s,r,pre,post,e,g,l=>by simp only[Vs]at e;(split at e<;>try (cases e;done));rename_i d;split at e<;>cases e;rename_i x u;have:=wag u;subst this;refine⟨rfl,λv j=>?_⟩;simp only[unT,TS.den]at j⊢;rw[zpv (a:=pre) (c:=post) (d:=⟨t,x⟩) (by rw[g];simp)];exact q _ _ (.rp _ (za _ _)) j
 |.own X,s,r,pre,post,e,g,l=>by simp only[Vs]at e;(split at e<;>try (cases e;done));{rename_i id A;cases e;refine⟨rfl,λv j=>?_⟩;simp only[unT,TS.den]at j⊢;exact(l (X,.id id A) Waf).1 v j};.split at e<;>cases e;rename_i v0 hn;refine⟨rfl,λv j=>?_⟩;rw[zxo hn]at j;simp only[TS.den,ofV]at j;cases j;simp only[unT,TS.den];exact l (X,.nil) Waf
 |.pt X O,s,r,pre,post,e,g,l=>by simp only[Vs]at e;(split at e<;>try (cases e;done));rename_i id R A;split at e<;>cases e;rename_i ho;have:=wcn ho;subst this;refine⟨rfl,λv j=>?_⟩;simp only[unT,TS.den]at j⊢;exact(l (X,.id id A) Waf).2 O v j
 |.dead,s,r,pre,post,e,g,l=>by simp only[Vs]at e;cases e;exact⟨rfl,λv _=>by simp only[unT,TS.den];exact .unk v⟩
 |.ci k z,s,r,pre,post,e,g,l=>by simp only[Vs]at e;(split at e<;>try (cases e;done));split at e<;>cases e;rename_i D;simp only[wco,wc9]at D;have B:=Ty.eqB_eq D.1;have C:=D.2;cases B;subst C;refine⟨rfl,λv j=>?_⟩;simp only[unT];exact q _ _ (by simp only[TS.den];exact zj4 _) j
 |.cb b,s,r,pre,post,e,g,l=>by simp only[Vs]at e;(split at e<;>try (cases e;done));split at e<;>cases e;rename_i D;have C:=eq_of_beq D;subst C;refine⟨rfl,λv j=>?_⟩;simp only[unT];exact q _ _ (by simp only[TS.den];exact zj4 _) j
 |.fn f a b,s,r,pre,post,e,g,l=>by simp only[Vs]at e;(split at e<;>try (cases e;done));rename_i f' Y J;(split at e<;>try (cases e;done));rename_i hf;have:=wcn hf;subst this;obtain⟨x,y,u,hy,rfl⟩:=zde e;simp only[wak]at g l;have M:=zxm q ds a Y x pre (y.1++post) u (by rw[g];simp) (λm I=>l m (by simp[I]));have N:=zxm q ds b J y (pre++x.1) post hy (by rw[g];simp) (λm I=>l m (by simp[I]));have el:(pre++x.1).length=pre.length+ze2 a:=by{simp[M.1]};rw[el]at N;refine⟨by simp[wak,zol,M.1,N.1],λv j=>?_⟩;simp only[TS.den,unT]at j⊢;cases j with|fn _ _ _ va vb F G B C=>have S:=M.2 va.toList ⟨by simpa using F,λi p v n o=>B i p v n (by simpa using o)⟩;have T:=N.2 vb.toList ⟨by simpa using G,λi p v n o=>C i p v n (by simpa using o)⟩;exact .fn _ _ _ _ _ (by simpa using S.1) (by simpa using T.1) (λi p v n o=>S.2 i p v n (by simpa using o)) (λi p v n o=>T.2 i p v n (by simpa using o))
 |.agg L,s,r,pre,post,e,g,l=>by simp only[Vs]at e;(split at e<;>try (cases e;done));rename_i Q u;have k:=zxc q ds L Q r pre post e g l;refine⟨by simp[zol,k.1],λv j=>?_⟩;obtain⟨P,rfl,B⟩:=juq u j;simp only[unT,TS.den];exact z3p (k.2 _ B)
 |.tup L,s,r,pre,post,e,g,l=>by simp only[Vs]at e;(split at e<;>try (cases e;done));rename_i Q;have k:=zxm q ds L Q r pre post e g l;refine⟨by simp[zol,k.1],λv j=>?_⟩;simp only[unT,TS.den]at j⊢;cases j with|tup _ P hl hh=>have:=k.2 P.toList ⟨by simpa using hl,λi p v n o=>hh i p v n (by simpa using o)⟩;exact .tup _ P (by simpa using this.1) (λi p v n o=>this.2 i p v n (by simpa using o))
theorem zxm(t:∀p v,NoP p->Rp Z H V w p v->Rp Z H' V' w p v)(ds:Wam Dyn):∀(g:Wam HS)(xs:Wam TS)(r:PR)(pre post:Wam Dyn),zcq g xs=some r->ds=pre++r.1++post->(∀m∈r.2,jq6 Z H H' V V' w m.1 m.2)->r.1.length=ze2 g/\∀d,RpL Z H V w (zq xs) d->RpL Z H' V' w (zq (zl0 ds g pre.length)) d
 |[],xs,r,pre,post,c,a,j=>by cases xs with|nil=>{simp only[zcq]at c;cases c;exact⟨rfl,λd h=>by simp only[zl0,zq]at h⊢;exact⟨h.1,λi p v k=>by simp at k⟩⟩}|cons _ _=>simp[zcq]at c
 |h::g,xs,r,pre,post,c,a,j=>by
  cases xs with
  |nil=>simp[zcq]at c
  |cons x xs=>
   simp only[zcq]at c;obtain⟨q,y,A,B,rfl⟩:=zde c;simp only[wak]at a j;have n:=je0 t ds h x q pre (y.1++post) A (by rw[a];simp) (λm l=>j m (by simp[l]));have o:=zxm t ds g xs y (pre++q.1) post B (by rw[a];simp) (λm l=>j m (by simp[l]));have z:(pre++q.1).length=pre.length+zol h:=by{simp[n.1]};rw[z]at o;refine⟨by simp[wak,ze2,n.1,o.1],λd b=>?_⟩;simp only[zq,zl0]at b⊢;match d,b with
   |[],b=>have:=b.1;simp at this
   |u::d,b=>
    have s:=o.2 d ⟨by have:=b.1;simpa using this,λi p v e f=>b.2 (i+1) p v (by simpa using e) (by simpa using f)⟩;have k:=n.2 u (b.2 0 _ u rfl rfl);refine⟨by simp[s.1],λi p v e f=>?_⟩;cases i with
    |zero=>simp at e f;subst e f;exact k
    |succ i=>exact s.2 i p v (by simpa using e) (by simpa using f)
theorem zxc(F:∀p v,NoP p->Rp Z H V w p v->Rp Z H' V' w p v)(ds:Wam Dyn):∀(j:Wam HS)(xs:Wam TS)(r:PR)(pre post:Wam Dyn),zb0 j xs=some r->ds=pre++r.1++post->(∀m∈r.2,jq6 Z H H' V V' w m.1 m.2)->r.1.length=ze2 j/\∀n,RpL Z H V w (qb xs) n->RpL Z H' V' w (qb (zl0 ds j pre.length)) n
 |[],xs,r,pre,post,d,c,o=>by cases xs with|nil=>{simp only[zb0]at d;cases d;exact⟨rfl,λn h=>by simp only[zl0,qb]at h⊢;exact⟨h.1,λi p v a=>by simp at a⟩⟩}|cons _ _=>simp[zb0]at d
 |h::j,xs,r,pre,post,d,c,o=>by simp only[zb0]at d;(split at d<;>try (cases d;done));rename_i k x;(split at d<;>try (cases d;done));rename_i g;obtain⟨q,y,z,L,rfl⟩:=zde d;simp only[wak]at c o;have A:=je0 F ds h _ q pre (y.1++post) z (by rw[c];simp) (λm u=>o m (by simp[u]));have B:=zxc F ds j k.2 y (pre++q.1) post L (by rw[c];simp) (λm u=>o m (by simp[u]));have N:(pre++q.1).length=pre.length+zol h:=by{simp[A.1]};rw[N]at B;refine⟨by simp[wak,ze2,A.1,B.1],λn I=>?_⟩;obtain⟨S,M⟩:=Vz _ _ _ _ x;rw[<- S]at I;obtain⟨C,T⟩:=RpL.split I;simp only[zl0,qb];have e:=zbp g;have R:RpL Z H' V' w (unT ds h pre.length).den.cells (n.take (qb k.1).length):=by{by_cases f:h=.dead;{subst f;simp only[unT,TS.den,PV.cells];have t:=C.1;rw[M]at t;simp only[jtn]at t;rw[M];simp only[jtn];refine⟨by simpa using t,λi p v s Y=>?_⟩;cases i with|zero=>{simp at s;subst s;exact .unk v}|succ i=>simp at s};.by_cases b:zah (zeh (zyl h) k.1)=zyl h;{rw[<- e]at C;rw[<- e];exact jpj A.2 (by rw[b,joi (post:=y.1++post) z (by rw[c];simp) f]) C};.exfalso;cases G:zyl h;{rw[G]at b z g;have a:zah (zeh false k.1)=true:=by{cases O:zah (zeh false k.1);exact absurd O b;rfl};unfold zeh at a;simp only at a;split at a;{split at a;{rename_i P;rw[P]at a;cases a};.split at a;{rename_i l Q L;by_cases D:jd5 l=.dead;{rw[D]at a;simp[zah]at a};.rw[(zsu D).1]at a;cases a};.simp[zah]at a};.simp[zah]at a};.rw[G]at b;apply b;unfold zeh;simp only;split;{split;{assumption};.rfl};.rfl};have:=RpL.append R (B.2 _ T);rwa [wd2]at this
end
end
def zej:∀t:Ty,t.eqB t=true
 |.int k=>by cases k<;>rfl
 |.bool=>rfl
 |.str=>rfl
 |.sl t=>by simp[Ty.eqB];exact zej t
 |.ref t=>by simp[Ty.eqB];exact zej t
 |.arr n t=>by simp[Ty.eqB,zej t,Bool.and_self]
 |.nil=>rfl
 |.cons a r=>by simp[Ty.eqB,zej a,zej r,Bool.and_self]
 |.st r=>by simp[Ty.eqB];exact zej r
 |.tup r=>by simp[Ty.eqB];exact zej r
def z97(ds:Wam Dyn):∀a j,(zl0 ds a j).length=a.length
 |[],j=>Wab
 |h::a,j=>by simp[zl0,z97 ds a]
def wal{Z b:ZM}{H a:Wau}{V V':Nm->Wan}{w w':Wao}{cs:Wam PV}{vs:Wam Wan}(h:RpL Z H V w cs vs)(hm:∀c∈cs,∀v,Rp Z H V w c v->Rp b a V' w' c v):RpL b a V' w' cs vs:=⟨h.1,λi p v d e=>hm p (wcq d) v (h.2 i p v d e)⟩
def MV.eqB:MV->MV->Bool
 |.id i v,.id j u=>Nat.beq i j && Nat.beq v u
 |.nil,.nil=>true
 |_,_=>false
def wb6{a b:MV}(h:a.eqB b=true):a=b:=by (cases a<;>cases b<;>simp[MV.eqB]at h<;>try (cases h;done));{simp_all};rfl
def zez:List (Nat×MV)->Nat->Option MV
 |[],_=>none
 |m::r,X=>match Nat.beq m.1 X with
  |true=>some m.2
  |false=>zez r X
def zhy{a c:Wam (Nat×MV)}{X:Nat}{m:MV}(h:zez a X=some m):zez (a++c) X=some m:=by induction a with|nil=>{trivial}|cons x a b=>simp[zez,wdw]at h⊢;grind
def ql{a b:Nat}(h:Nat.beq a b=true):a=b:=wcn h
def zjj(t:Ty):List TS->Option (List t.D)
 |[]=>some []
 |x::b=>match toT t x with
  |none=>none
  |some a=>match zjj t b with
   |none=>none
   |some l=>some (a::l)
@[reducible] def mty (kt t:Ty):Ty :=.sl (.st (.cons kt (.cons (.sl t) .nil)))
def z3v:HB->BD->Option PR
 |.row b t,.row a c l=>match Nat.beq b a with
  |true=>match Dyn.as ⟨.sl c,l⟩ (.sl t)with
   |some x=>some ([⟨.sl t,x⟩],[])
   |none=>none
  |false=>none
 |.row b t,.rowx a k e=>match Nat.beq b a && Nat.beq k (wid t)with
  |true=>match zjj t e with
   |some x=>some ([⟨.sl t,x⟩],[])
   |none=>none
  |false=>none
 |.rowx b k h,.rowx a i e=>match Nat.beq b a && Nat.beq k i && Nat.beq h.length e.length with
  |true=>zb0 h e
  |false=>none
 |.box b h,.box a e=>match Nat.beq b a with
  |true=>zb0 h e
  |false=>none
 |.obj k,.obj i x=>match k.eqB i with
  |true=>match Dyn.as ⟨i.ty,x⟩ k.ty with
   |some y=>some ([⟨k.ty,y⟩],[])
   |none=>none
  |false=>none
 |.que b t,.que a c l=>match Nat.beq b a with
  |true=>match Dyn.as ⟨.sl c,l⟩ (.sl t)with
   |some x=>some ([⟨.sl t,x⟩],[])
   |none=>none
  |false=>none
 |.que b t,.row a c l=>match Nat.beq b a with
  |true=>match Dyn.as ⟨.sl c,l⟩ (.sl t)with
   |some x=>some ([⟨.sl t,x⟩],[])
   |none=>none
  |false=>none
 |.rows b j t,.rows a d c l _ none=>match Nat.beq b a && Nat.beq j d with
  |true=>match Dyn.as ⟨.sl (.sl c),l⟩ (.sl (.sl t))with
   |some x=>some ([⟨.sl (.sl t),x⟩],[])
   |none=>none
  |false=>none
 |.mrows o j t,.mrows m d c l _ none=>match Nat.beq j d with
  |true=>match Dyn.as ⟨mty m c,l⟩ (mty o t)with
   |some x=>some ([⟨mty o t,x⟩],[])
   |none=>none
  |false=>none
 |.iter X,.iter n g f _=>some ([⟨.sl .bool,f⟩],[(X,.id n g)])
 |_,_=>none
def jui:HB->Nat
 |.row _ _=>1
 |.rowx _ _ a=>ze2 a
 |.box _ a=>ze2 a
 |.obj _=>1
 |_=>1
def getD(ds:List Dyn)(t:Ty)(j:Nat)(x:t.D):t.D:=match (nth ds j).as t with
 |some y=>y
 |none=>x
def unB(ds:List Dyn):HB->Nat->BD
 |.row a t,j => .row a t (getD ds (.sl t) j [])
 |.rowx a k b,j => .rowx a k (zl0 ds b j)
 |.box a b,j => .box a (zl0 ds b j)
 |.obj k,j => .obj k (getD ds k.ty j k.dflt)
 |.que a t,j => .que a t (getD ds (.sl t) j [])
 |.rows a c t,j => .rows a c t (getD ds (.sl (.sl t)) j []) 0 none
 |.mrows d c t,j => .mrows d c t (getD ds (mty d t) j []) 0 none
 |.iter X,j => .iter X 1 (getD ds (.sl .bool) j []) none
def jwa:HB->Option Dyn
 |.row _ t=>some ⟨.sl t,[]⟩
 |.que _ t=>some ⟨.sl t,[]⟩
 |.rows _ _ t=>some ⟨.sl (.sl t),[]⟩
 |_=>none
def zzi(E:EF):List (Nat×HS)->Option PR
 |[]=>some jw8
 |h::a=>jl6 (Vs h.2 (E h.1)) (zzi E a)
def zup:List (Nat×HS)->Nat
 |[]=>0
 |h::a=>zol h.2+zup a
def jqx(ds:List Dyn):List (Nat×HS)->Nat->Nat->TS
 |[],_,_ => .dead
 |h::a,j,i=>match Nat.beq i h.1 with
  |true=>unT ds h.2 j
  |false=>jqx ds a (j+zol h.2) i
def zs4(G:EG):List (Nat×HB)->List (Nat×MV)->Option PR
 |[],_=>some jw8
 |e::r,mp=>match zez mp e.1 with
  |some (.id i a)=>match Nat.beq (G i).ver a with
   |true=>match (G i).b with
    |some c=>match z3v e.2 c with
     |some x=>match zs4 G r (mp++x.2)with
      |some y=>some (wak x y)
      |none=>none
     |none=>none
    |none=>none
   |false=>none
  |some .nil=>match jwa e.2 with
   |some d=>match zs4 G r mp with
    |some y=>some (d::y.1,y.2)
    |none=>none
   |none=>none
  |none=>none
def zy5(ds:List Dyn):List (Nat×HB)->Nat->Nat->Option BD
 |[],_,_=>none
 |e::r,j,X=>match Nat.beq e.1 X with
  |true=>some (unB ds e.2 j)
  |false=>zy5 ds r (j+jui e.2) X
def unE(h:LH)(ds:List Dyn):EF:=jqx ds h.slots 0
def unG(h:LH)(ds:List Dyn):EG:=λX=>match zy5 ds h.heap (zup h.slots) X with
 |some a=>⟨1,some a⟩
 |none=>⟨0,none⟩
def inH(L:List (Nat×HB))(X:Nat):Bool:=L.any λe=>Nat.beq e.1 X
def jwo(L:List (Nat×HB))(full:List (Nat×MV)):List (Nat×MV)->Bool
 |[]=>true
 |m::r=>(match zez full m.1 with
  |some x=>x.eqB m.2
  |none=>false) && inH L m.1 && jwo L full r
def z5v(mp:List (Nat×MV)):List (Nat×HB)->List Nat->Bool
 |[],_=>true
 |e::r,a=>match zez mp e.1 with
  |some (.id i _)=>!(a.any (Nat.beq i)) && z5v mp r (i::a)
  |_=>z5v mp r a
def mp0:Nat->List (Nat×MV)
 |0=>[]
 |b+1=>(b,.id b 1)::mp0 b
def jsm(b:Nat)(h:LH)(E:EF)(G:EG):Option PR:=match zzi E h.slots with
 |none=>none
 |some x=>match zs4 G h.heap (mp0 b++x.2)with
  |none=>none
  |some y=>match mp0 b++x.2++y.2 with
   |full=>match jwo h.heap full full && z5v full h.heap []with
    |true=>some (x.1++y.1,full)
    |false=>none
def z37{L:Wam (Nat×HB)}{full:Wam (Nat×MV)}:∀{l:Wam (Nat×MV)},jwo L full l=true->∀m∈l,zez full m.1=some m.2/\inH L m.1=true
 |[],_,m,a=>X
 |e::r,h,m,a=>by simp[jwo,wco]at h;rcases wda.1 a with rfl|a;{cases b:zez full m.1 with|none=>{grind}|some x=>rw[b]at h;exact⟨by rw[wb6 h.1.1],h.1.2⟩};.exact z37 h.2 m a
def ju5{b i:Nat}(h:i<b):(i,MV.id i 1)∈mp0 b:=by induction b with|zero=>{omega}|succ b a=>simp[mp0,wda];grind
def zox{mp:Wam (Nat×MV)}:∀{L:Wam (Nat×HB)}{c:Wam Nat},z5v mp L c=true ->
  (∀e∈L,∀i v,zez mp e.1=some (.id i v)->i∉c)/\∀e∈L,∀f∈L,∀i v u,zez mp e.1=some (.id i v)->zez mp f.1=some (.id i u)->e.1=f.1
 |[],c,h=>⟨λe k=>X,λe k=>V⟩
 |a::L,c,h=>by simp[z5v]at h;have p:∀{i:Nat}{l:Wam Nat},(!(l.any (Nat.beq i)))=true->i∉l:=λ{i l}h o=>by{simp only[wd6,List.any_eq_false]at h;exact h i o (wet i)};have d:∀{b:Wam Nat},z5v mp L b=true->(∀i v,zez mp a.1≠some (.id i v))->(∀e∈a::L,∀i v,zez mp e.1=some (.id i v)->i∉b)/\∀e∈a::L,∀f∈a::L,∀i v u,zez mp e.1=some (.id i v)->zez mp f.1=some (.id i u)->e.1=f.1:=λ{b}h q=>by{obtain⟨g,j⟩:=zox h;grind};cases n:zez mp a.1 with|none=>{grind}|some m=>rw[n]at h;cases m with|nil=>{grind}|id s t=>simp at h;obtain⟨r,h⟩:=h;obtain⟨g,j⟩:=zox h;grind
mutual
theorem zs9:∀(h:HS)(s:TS)(r:PR),Vs h s=some r->r.1.length=zol h
 |.v t,s,r,c=>by simp only[Vs]at c;split at c<;>cases c;rfl
 |.rd t,s,r,c=>by simp only[Vs]at c;(split at c<;>try (cases c;done));split at c<;>cases c;rfl
 |.own X,s,r,c=>by simp only[Vs]at c;(split at c<;>try (cases c;done));{cases c;rfl};.split at c<;>cases c;rfl
 |.pt X i,s,r,c=>by simp only[Vs]at c;(split at c<;>try (cases c;done));split at c<;>cases c;rfl
 |.dead,s,r,c=>by simp only[Vs]at c;cases c;rfl
 |.ci k z,s,r,c=>by simp only[Vs]at c;(split at c<;>try (cases c;done));split at c<;>cases c;rfl
 |.cb b,s,r,c=>by simp only[Vs]at c;(split at c<;>try (cases c;done));split at c<;>cases c;rfl
 |.fn f a b,s,r,c=>by simp only[Vs]at c;(split at c<;>try (cases c;done));(split at c<;>try (cases c;done));obtain⟨x,y,e,g,rfl⟩:=zde c;simp[wak,zol,zjs a _ x e,zjs b _ y g]
 |.agg d,s,r,c=>by simp only[Vs]at c;(split at c<;>try (cases c;done));simp only[zol];exact zoz d _ r c
 |.tup d,s,r,c=>by simp only[Vs]at c;(split at c<;>try (cases c;done));simp only[zol];exact zjs d _ r c
theorem zjs:∀(b:Wam HS)(xs:Wam TS)(r:PR),zcq b xs=some r->r.1.length=ze2 b
 |[],xs,r,a=>by cases xs with|nil=>{simp only[zcq]at a;cases a;rfl}|cons _ _=>simp[zcq]at a
 |h::b,xs,r,a=>by cases xs with|nil=>{simp[zcq]at a}|cons x xs=>simp only[zcq]at a;obtain⟨q,y,c,d,rfl⟩:=zde a;simp[wak,ze2,zs9 h x q c,zjs b xs y d]
theorem zoz:∀(b:Wam HS)(xs:Wam TS)(r:PR),zb0 b xs=some r->r.1.length=ze2 b
 |[],xs,r,a=>by cases xs with|nil=>{simp only[zb0]at a;cases a;rfl}|cons _ _=>simp[zb0]at a
 |h::b,xs,r,a=>by simp only[zb0]at a;(split at a<;>try (cases a;done));(split at a<;>try (cases a;done));obtain⟨q,y,c,d,rfl⟩:=zde a;simp[wak,ze2,zs9 h _ q c,zoz b _ y d]
end
def jlt{a:HB}{bd:BD}{r:PR}(h:z3v a bd=some r):r.1.length=jui a:=by
 unfold z3v at h;split at h<;>first
  |(cases h;done)
  |(split at h<;>first|(cases h;done)|(split at h<;>cases h;rfl)|exact zoz _ _ _ h)
  |(cases h;rfl)
def jhb(G:EG)(full:List (Nat×MV))(ds:List Dyn)(X:Nat)(e:HB)(g:BD):Prop:=
 (∃i c f x a post,zez full X=some (.id i c)/\(G i).ver=c/\(G i).b=some f/\z3v e f=some x/\ds=a++x.1++post/\(∀m∈x.2,m∈full)/\g=unB ds e a.length) \/
 (zez full X=some .nil/\∃d a post,jwa e=some d/\ds=a++d::post/\g=unB ds e a.length)
def z5m{G:EG}{full:Wam (Nat×MV)}{ds:Wam Dyn}:∀(L:Wam (Nat×HB))(mp:Wam (Nat×MV))(r:PR)(rest:Wam (Nat×MV))(pre post:Wam Dyn),zs4 G L mp=some r->full=mp++r.2++rest->ds=pre++r.1++post ->
  (∀X b,zy5 ds L pre.length X=some b->∃a,(X,a)∈L/\jhb G full ds X a b)/\∀X,inH L X=true->∃b,zy5 ds L pre.length X=some b
 |[],mp,r,rest,pre,post,h,l,q=>⟨λX b g=>by trivial,λX f=>by trivial⟩
 |e::L,mp,r,rest,pre,post,h,l,q=>by
  obtain⟨Y,a⟩:=e;simp[zs4]at h;have step:∀{x:PR}{y:PR}{c:Wam (Nat×MV)}{rest':Wam (Nat×MV)},x.1.length=jui a->zs4 G L c=some y->full=c++y.2++rest'->ds=pre++x.1++(y.1++post)->jhb G full ds Y a (unB ds a pre.length) ->
    (∀X b,zy5 ds ((Y,a)::L) pre.length X=some b->∃j,(X,j)∈(Y,a)::L/\jhb G full ds X j b)/\∀X,inH ((Y,a)::L) X=true->∃b,zy5 ds ((Y,a)::L) pre.length X=some b:=by
   intro x y c rest' D k n B s;have w:(pre++x.1).length=pre.length+jui a:=Waa;obtain⟨F,u⟩:=z5m (ds:=ds) L c y rest' (pre++x.1) post k n Waa;rw[w]at F u;refine⟨λX b g=>?_,λX f=>?_⟩
   ·simp[zy5]at g;split at g
    ·simp_all
    grind
   ·simp[zy5];simp only[inH,List.any_cons,Bool.or_eq_true]at f;split
    ·simp
    ·rename_i A;rcases f with f|f
     ·grind
     ·exact u X f
  (split at h<;>try (cases h;done));{rename_i i p o;(split at h<;>try (cases h;done));rename_i C;(split at h<;>try (cases h;done));rename_i v z;(split at h<;>try (cases h;done));rename_i x t;(split at h<;>try (cases h;done));rename_i y k;cases h;simp only[wak]at l q;refine step (rest':=rest) (jlt t) k Waa Waa (.inl ⟨i,p,v,x,pre,y.1++post,?_,ql C,z,t,Waa,λm H=>Waa,rfl⟩);rw[l];exact zhy (zhy o)};.rename_i o;(split at h<;>try (cases h;done));rename_i d g;(split at h<;>try (cases h;done));rename_i y k;cases h;refine step (x:=([d],[])) ?_ k U Waa (.inr ⟨by rw[l];exact zhy (zhy o),d,pre,y.1++post,g,Waa,rfl⟩);cases a<;>first|(cases g;done)|rfl
def zt6{E:EF}{ds:Wam Dyn}:∀(L:Wam (Nat×HS))(r:PR)(pre post:Wam Dyn),zzi E L=some r->ds=pre++r.1++post->r.1.length=zup L/\∀i,jqx ds L pre.length i=.dead\/∃s q b a,Vs s (E i)=some q/\ds=b++q.1++a/\(∀m∈q.2,m∈r.2)/\jqx ds L pre.length i=unT ds s b.length
 |[],r,pre,post,h,f=>by simp[zzi]at h;cases h;exact⟨rfl,λi=> .inl Wab⟩
 |e::L,r,pre,post,h,f=>by
  simp[zzi]at h;obtain⟨q,y,g,u,rfl⟩:=zde h;simp[wak]at f;have t:=zs9 _ _ _ g;have k:(pre++q.1).length=pre.length+zol e.2:=X;obtain⟨v,j⟩:=zt6 (ds:=ds) L y (pre++q.1) post u X;rw[k]at j;refine⟨by simp[wak,zup,t,v],λi=>?_⟩;simp only[jqx];split;{rename_i p;have:=ql p;subst this;exact .inr ⟨e.2,q,pre,y.1++post,g,X,λm c=>by simp[wak,c],rfl⟩}
  .rcases j i with d|⟨s,w,b,a,d,l,n,o⟩
   {grind};.exact .inr ⟨s,w,b,a,d,l,λm c=>by simp[wak,n m c],o⟩
def V2(mp:List (Nat×MV))(V:Nm->Value):Nm->Value
 |.o X=>match zez mp X with
  |some (.id i _)=>V (.o i)
  |some .nil => .slice none 0 0
  |none=>V (.o X)
 |.c X j=>match zez mp X with
  |some (.id i _)=>V (.c i j)
  |_=>V (.c X j)
 |.r x=>V (.r x)
def RestOk(b:Nat)(R:PHeap):Prop:=∀i a,(R i).body=some a->∀c∈a.cs,IdOk b c
def GhOk(b:Nat)(W:Env):Prop:=∀i,IdOk b (W.G i)
def zjc{t:Ty}:∀{xs:Wam TS}{l:Wam t.D},zjj t xs=some l->RefL (qb xs) (l.flatMap (jp t))/\l.length=xs.length
 |[],l,h=>by simp[zjj]at h;cases h;simp only[ List.flatMap_nil];exact⟨RefL.nil,rfl⟩
 |x::xs,l,h=>by simp[zjj]at h;(split at h<;>try (cases h;done));rename_i a c;(split at h<;>try (cases h;done));rename_i f d;cases h;obtain⟨b,e⟩:=zjc d;refine⟨?_,X⟩;exact RefL.append (zb7 t x a c).1 b
def z7l{Z:ZM}{b d:Wau}{f V2:Nm->Wan}(l:∀id g,(d id).body.isSome=true->qc (V2 id)=some g->∃i,(b i).body.isSome=true/\V2 id=f i){c:Nat}(h:¬PZ Z b f c):¬PZ Z d V2 c:=by rintro(a|⟨id,a,j⟩);{exact h (.inl a)};.obtain⟨i,k,e⟩:=l id c a j;exact h (.inr ⟨i,k,X⟩)
def HRel.ren{P:Waq}{W n:Env}{r k:Wau}{m V2:Nm->Wan}{w:Wao}(o:HRel P W r m w)(σ:Nm->Nm)(B:n.w=W.w)(x:n.Z=W.Z)(F:∀i,Rp W.Z k V2 w (n.G i) (n.gv i))
  (A:∀id d,(k id).body=some d->(V2 id=.slice none 0 0/\d.Is w W.w.heap.size (.slice none 0 0) []/\d.cs=[])\/∃c,(r (σ id)).body=some c/\V2 id=m (σ id)/\∀q,c.Is w W.w.heap.size (m (σ id)) q->RpL W.Z r m w c.cs q->d.Is w W.w.heap.size (m (σ id)) q/\RpL W.Z k V2 w d.cs q)
  (hi:∀id a g,(k id).body.isSome=true->(k a).body.isSome=true->qc (V2 id)=some g->qc (V2 a)=some g->σ id=σ a->id=a):HRel P n k V2 w:=by
 have l:∀id g,(k id).body.isSome=true->qc (V2 id)=some g->(r (σ id)).body.isSome=true/\V2 id=m (σ id):=λid g h s=>by
  obtain⟨d,y⟩:=wdh.1 h;rcases A id d y with⟨e,_⟩|⟨c,f,j,_⟩
  ·rw[e]at s;cases s
  grind
 refine⟨by rw[B];exact o.below,λid d s=>?_,λi=>X,λid a g f j u z=>?_,by rw[x];exact o.zlt,λid b f j=>?_⟩
 ·rw[B,x];rcases A id d s with⟨e,f,j⟩|⟨c,f,j,u⟩
  ·rw[e,j];exact⟨[],f,rfl,λi p v h=>V⟩
  ·obtain⟨q,H,I⟩:=o.body _ _ f
   grind
 ·obtain⟨t,C⟩:=l id g f u;obtain⟨b1,D⟩:=l a g j z;exact hi id a g f j u z (o.apart _ _ g t b1 X X)
 ·obtain⟨t,C⟩:=l id b f j;rw[x];exact o.nz _ b t X
def Is.que{w:Wao}{m:Nat}{v:Wan}{vs:Wam Wan}{t:Wap}{k n:Nat}{cs b:Wam PV}(h:(PBody.row t k n cs).Is w m v vs):(PBody.que t k n b).Is w m v vs:=by
 refine⟨v,0,[],by rw[wd0];exact h.1,V,?_,h.2⟩;rcases h.1.2 with⟨e,h0⟩|⟨g,a,c,e,_,_,d,_⟩
 {exact⟨none,0,0,none,e,e,wcs _,wcs _,.inl ⟨rfl,rfl⟩⟩};.exact⟨_,n,a,_,e,e,wdz _,d,.inr ⟨g,0,rfl,rfl,.inl V⟩⟩
def zq7{w:Wao}{m:Nat}{ds pre post:Wam Dyn}{a:HB}{d:Dyn}(h:jwa a=some d)(f:ds=pre++d::post)(X v:Nat):((unB ds a pre.length).den X v).Is w m (.slice none 0 0) []/\((unB ds a pre.length).den X v).cs=[]/\∀j,(unB ds a pre.length).ch j=none:=by
 have b:∀{t:Ty}x,d=⟨t,x⟩->getD ds t pre.length x=x:=λ{t}x e=>by{subst e;unfold getD;rw[zpv f];split;{rename_i y g;have:=wag g;grind};rfl};have i:w.ownsRow m 0 0 (.slice none 0 0) 0 []:=⟨V,.inl ⟨rfl,rfl⟩⟩
 cases a<;>simp[jwa]at h<;>try (cases h;done)
 {cases h;simp[unB,b _ rfl];exact⟨⟨⟨V,.inl ⟨rfl,rfl⟩⟩,λu c=>Waa⟩,rfl,λj=>rfl⟩};{cases h;simp[unB,b _ rfl];exact⟨⟨.slice none 0 0,0,[],⟨V,.inl ⟨rfl,rfl⟩⟩,V,⟨none,0,0,none,rfl,rfl,wcs _,wcs _,.inl ⟨rfl,rfl⟩⟩,λu c=>Waa⟩,rfl,λj=>rfl⟩};.cases h;simp[unB,b _ rfl];exact⟨⟨⟨V,.inl ⟨rfl,rfl⟩⟩,λu c=>Waa⟩,rfl,λj=>rfl⟩
def joc{t:Ty}{x y:t.D}{ds pre post:Wam Dyn}(h:ds=pre ++ ⟨t,x⟩::post):getD ds t pre.length y=x:=by unfold getD;rw[zpv h];have:(Dyn.mk t x).as t=some x:=by{simp[Dyn.as,jql];split;{rfl};.rename_i a;rw[zej]at a;grind};grind
inductive Pk(ds pre post:List Dyn)(x:PR):BD->BD->Prop
 |row {tid:TypeId}{t:Ty}{l:List t.D}:Pk ds pre post x (.row tid t l) (.row tid t l)
 |read {tid:TypeId}{t:Ty}{xs:List TS}{l:List t.D}(h:RefL (qb xs) (l.flatMap (jp t))/\l.length=xs.length):Pk ds pre post x (.rowx tid (wid t) xs) (.row tid t l)
 |rowx {tid:TypeId}{k:Nat}{hs:List HS}{xs:List TS}(hp:zb0 hs xs=some x) (hl:hs.length=xs.length):Pk ds pre post x (.rowx tid k xs) (.rowx tid k (zl0 ds hs pre.length))
 |box {tid:TypeId}{hs:List HS}{xs:List TS}(hp:zb0 hs xs=some x):Pk ds pre post x (.box tid xs) (.box tid (zl0 ds hs pre.length))
 |obj {k:RK}{y:k.ty.D}:Pk ds pre post x (.obj k y) (.obj k y)
 |que {tid:TypeId}{t:Ty}{l:List t.D}:Pk ds pre post x (.que tid t l) (.que tid t l)
 |rowq {tid:TypeId}{t:Ty}{l:List t.D}:Pk ds pre post x (.row tid t l) (.que tid t l)
 |rows {tid it:TypeId}{t:Ty}{l:List (List t.D)}{kv:Nat}:Pk ds pre post x (.rows tid it t l kv none) (.rows tid it t l 0 none)
 |mrows {kt:Ty}{it:TypeId}{t:Ty}{l:List (kt.D×List t.D×Unit)}{kv:Nat}:Pk ds pre post x (.mrows kt it t l kv none) (.mrows kt it t l 0 none)
 |iter {Y mid mver:Nat}{mask:List Bool}{last:Option Nat}(hx:(Y,.id mid mver)∈x.2):Pk ds pre post x (.iter mid mver mask last) (.iter Y 1 mask none)
def z0s{ds pre post:Wam Dyn}{h:HB}{bd:BD}{x:PR}(b:z3v h bd=some x)(m:ds=pre++x.1++post):Pk ds pre post x bd (unB ds h pre.length):=by have d:∀{t:Ty}{y z:t.D},x.1=[⟨t,y⟩]->getD ds t pre.length z=y:=λ{t y z}e=>joc (post:=post) X;unfold z3v at b;(split at b<;>try (cases b;done));{(split at b<;>try (cases b;done));rename_i a;cases ql a;split at b<;>cases b;rename_i f c;cases wag c;simp[unB,d rfl];exact .row};{rename_i j t i k n;(split at b<;>try (cases b;done));rename_i a;simp only[wco]at a;cases ql a.1;cases ql a.2;split at b<;>cases b;rename_i l g;simp[unB,d rfl];exact .read (zjc g)};{(split at b<;>try (cases b;done));rename_i a;simp only[wco]at a;cases ql a.1.1;cases ql a.1.2;exact .rowx b (ql a.2)};{(split at b<;>try (cases b;done));rename_i a;cases ql a;exact .box b};{(split at b<;>try (cases b;done));rename_i a;cases wba a;split at b<;>cases b;rename_i c;cases wag c;simp[unB];rw[d rfl];exact .obj};{(split at b<;>try (cases b;done));rename_i a;cases ql a;split at b<;>cases b;rename_i f c;cases wag c;simp[unB,d rfl];exact .que};{(split at b<;>try (cases b;done));rename_i a;cases ql a;split at b<;>cases b;rename_i f c;cases wag c;simp[unB,d rfl];exact .rowq};{(split at b<;>try (cases b;done));rename_i a;simp only[wco]at a;cases ql a.1;cases ql a.2;split at b<;>cases b;rename_i f c;cases wag c;simp[unB,d rfl];exact .rows};{(split at b<;>try (cases b;done));rename_i a;cases ql a;split at b<;>cases b;rename_i f c;cases wag c;simp[unB,d rfl];exact .mrows};.cases b;simp[unB];rw[d rfl];exact .iter V
def Pk.ch{ds pre post:Wam Dyn}{x:PR}{bd a:BD}(h:Pk ds pre post x bd a)(j:Nat):a.ch j=bd.ch j:=by cases h<;>rfl
def Pk.ok{Z:ZM}{H e:Wau}{V V':Nm->Wan}{w:Wao}(A:∀p v,NoP p->Rp Z H V w p v->Rp Z e V' w p v){ds pre post:Wam Dyn}{bd F:BD}{x:PR}{i X m cv:Nat}(h:Pk ds pre post x bd F)(I:ds=pre++x.1++post)(B:∀m∈x.2,jq6 Z H e V V' w m.1 m.2)
  (q:∀j v,Rp Z H V w (.ps (.c i j) cv) v->Rp Z e V' w (.ps (.c X j) 1) v){v:Wan}{vs:Wam Wan}(a:(bd.den i cv).Is w m v vs) (d:RpL Z H V w (bd.den i cv).cs vs):(F.den X 1).Is w m v vs/\RpL Z e V' w (F.den X 1).cs vs:=by
 have told:∀{t:Ty}{l:Wam t.D}{cs vs},RefL cs (l.flatMap (jp t))->RpL Z H V w cs vs->RpL Z e V' w (l.flatMap (jp t)) vs:=λ{t l cs vs}q f=>by
  have:=q.rpL f;refine wal this λc q v f=>A c v ?_ f;obtain⟨z,_,hz⟩:=wdm.1 q;exact za t z c hz
 have kids:∀{n:Nat}{vs},RpL Z H V w ((range n).map (Hole.cell i cv none)) vs->RpL Z e V' w ((range n).map (Hole.cell X 1 none)) vs:=λ{n vs}f=>by
  refine⟨by have:=f.1;grind,λj p v a d=>?_⟩;rw[wcv]at a;obtain⟨Y,L,rfl⟩:=wct.1 a;exact q Y v (f.2 j _ v (by rw[wcv,L];rfl) d)
 cases h with
 |row=>exact⟨a,told (RefL.refl _) d⟩
 |read h=>refine⟨?_,told h.1 d⟩;simp[BD.den,h.2];exact a
 |rowx C S=>refine⟨?_,(zxc A ds _ _ x pre post C I B).2 vs d⟩;simp[BD.den,z97,S];exact a
 |box C=>exact⟨a,(zxc A ds _ _ x pre post C I B).2 vs d⟩
 |obj=>
  rename_i k y;obtain⟨p,φ,s⟩:=k.den_raw y;simp[BD.den,s]at a d⊢;exact⟨a,d.1,λi p v h=>by trivial⟩
 |que=>exact⟨a,told (RefL.refl _) d⟩
 |rowq=>exact⟨Is.que a,told (RefL.refl _) d⟩
 |rows=>exact⟨a,kids d⟩
 |mrows=>exact⟨a,kids d⟩
 |iter T=>
  refine⟨?_,d.1,λj p u G R=>?_⟩
  ·obtain⟨g,o,M,N,O,b,r,s,P,Q,_⟩:=a;exact⟨g,o,M,N,O,b,r,s,P,Q,λj L=>Waa⟩
  cases j with
  |zero=>
   simp[BD.den,itB,PBody.cs,List.getElem?_cons_zero,wdn]at G;subst G;exact(B _ T).1 u (d.2 0 _ u rfl R)
  |succ j=>trivial
section
variable{P:Program}{W:Env}{n b:Nat}{E:EF}{G:EG}{R:PHeap}{h:LH}{r:PR}
def sg(mp:List (Nat×MV)):Nm->Nm
 |.o X=>match zez mp X with
  |some (.id i _) => .o i
  |_ => .o X
 |.c X j=>match zez mp X with
  |some (.id i _) => .c i j
  |_ => .c X j
 |.r x => .r x
def jqw(hp:jsm b h E G=some r)(hg:GhOk b W)(hR:RestOk b R){V:Nm->Wan}{a:Act}{w:Wao}(hr:Rel P W n (Ju E) (qp G R) V a w):∃V',Rel P W n (Ju (unE h r.1)) (qp (unG h r.1) R) V' a w:=by
 unfold jsm at hp;split at hp<;>try (cases hp;done)
 rename_i x hx;split at hp<;>try (cases hp;done)
 rename_i y hy;simp only at hp;split at hp<;>try (cases hp;done)
 rename_i b2;cases hp;simp only[wco]at b2;obtain⟨d6,a2⟩:=b2;generalize a0:mp0 b++x.2++y.2=full at *;have a7:=z37 d6;have a2:=(zox a2).2;generalize d3:x.1++y.1=ds at *;have d7:x.1.length=zup h.slots:=(zt6 (ds:=x.1) h.slots x [] [] hx Waf).1;obtain⟨J,b4⟩:=z5m (full:=full) (ds:=ds) h.heap (mp0 b++x.2) y [] x.1 [] hy Waa Waa;rw[d7]at J b4;have e6:∀X u,zy5 ds h.heap (zup h.slots) X=some u->unG h ds X=⟨1,some u⟩:=λX u e=>by unfold unG;rw[e]
 have e7:∀X,zy5 ds h.heap (zup h.slots) X=none->unG h ds X=⟨0,none⟩:=λX e=>by unfold unG;rw[e]
 -- each live block of the new heap
 have B:∀X u,(unG h ds X).b=some u->(unG h ds X).ver=1/\∃A,(X,A)∈h.heap/\jhb G full ds X A u:=λX u e=>by
  cases hu:zy5 ds h.heap (zup h.slots) X with
  |none=>grind
  |some f7=>
   grind
 have d2:∀X u,(unG h ds X).b=some u->(unG h ds X).cv=1:=λX u e=>by
  obtain⟨D,A,_,L⟩:=B X u e;have hk:u.kv=0:=by
   rcases L with⟨_,_,_,_,_,_,_,_,_,_,_,_,rfl⟩|⟨_,_,_,_,_,_,rfl⟩<;>cases A<;>rfl
  unfold GB.cv
  grind
 have c0:∀{X},zez full X=some .nil->V2 full V (.o X)=.slice none 0 0:=λ{X}e=>by simp only[V2,e]
 have F:∀{X i f},zez full X=some (.id i f)->V2 full V (.o X)=V (.o i)/\sg full (.o X)=.o i/\∀j,V2 full V (.c X j)=V (.c i j)/\sg full (.c X j)=.c i j:=λ{X i f}e=>by refine⟨?_,?_,λj=>⟨?_,?_⟩⟩<;>simp only[V2,sg,e]
 -- what each live name stands for
 have a3:∀Y C,(qp (unG h ds) R Y).body=some C->V2 full V Y=.slice none 0 0/\C.Is w W.w.heap.size (.slice none 0 0) []/\C.cs=[]\/∃a9,(qp G R (sg full Y)).body=some a9/\V2 full V Y=V (sg full Y):=by
  intro Y C H;cases Y with
  |o X=>
   obtain⟨u,A,rfl⟩:=wct.1 (show(unG h ds X).b.map (BD.den X (unG h ds X).cv)=some C from H);obtain⟨_,I,_,L⟩:=B X u A;rcases L with⟨i,f,O,x',l,post,k,M,z,_⟩|⟨k,d,l,post,hn,N,rfl⟩
   ·refine .inr ⟨O.den i (G i).cv,?_,?_⟩
    ·rw[(F k).2.1];simp[qp,vz,z]
    grind
   ·obtain⟨k1,Q,_⟩:=zq7 (w:=w) (m:=W.w.heap.size) hn N X (unG h ds X).cv
    grind
  |c X j=>
   obtain⟨u,A,S⟩:=wdi.1 (show(unG h ds X).b.bind (λb=>b.ch j)=some C from H);obtain⟨_,I,_,L⟩:=B X u A;rcases L with⟨i,f,O,x',l,post,k,M,z,a5,N,_,rfl⟩|⟨k,d,l,post,hn,N,rfl⟩
   ·have hk:=z0s a5 N;refine .inr ⟨C,?_,?_⟩
    ·rw[((F k).2.2 j).2];rw[hk.ch]at S;simp[qp,zcc,z,S]
    grind
   ·rw[(zq7 (w:=w) (m:=0) hn N X 0).2.2 j]at S;grind
  |r y=>exact .inr ⟨C,H,rfl⟩
 have hz:∀c,c<w.heap.size->¬PZ W.Z (qp G R) V c->¬PZ W.Z (qp (unG h ds) R) (V2 full V) c:=λc _ D=>z7l (λY g hs A=>by
  obtain⟨C,H⟩:=wdh.1 hs;rcases a3 Y C H with⟨e,_⟩|⟨a9,T,e⟩
  ·rw[e]at A;cases A
  grind) D
 have hT:∀p v,NoP p->Rp W.Z (qp G R) V w p v->Rp W.Z (qp (unG h ds) R) (V2 full V) w p v:=λp v hn M=>Rp.noP M hn hz;have a1:∀m∈full,jq6 W.Z (qp G R) (qp (unG h ds) R) V (V2 full V) w m.1 m.2:=by
  rintro⟨X,m⟩ hm;obtain⟨D,T⟩:=a7 _ hm;simp only at D T⊢;obtain⟨u,hu⟩:=b4 X T;have d8:(qp (unG h ds) R (.o X)).ver=1:=by show(unG h ds X).ver=1;grind
  obtain⟨A,c2,L⟩:=J X u hu;rcases L with⟨i,f,C,x',l,post,k,M,z,_⟩|⟨k,_⟩
  ·rw[D]at k;cases k;have c1:(qp G R (.o i)).body.isSome=true:=by simp[qp,vz,z]
   refine⟨λv b6=>?_,λf8 v b6=>?_⟩
   ·cases b6 with
    |ps _ _ _ k1 Q=>exact .ps _ _ _ U λ_ _=>by rw[(F D).1];exact Q c1 M
   ·cases b6 with
    |pp _ _ _ _ k1 Q=>exact .pp _ _ _ _ U λ_ _=>by rw[(F D).1];exact Q c1 M
  ·rw[D]at k;cases k;exact .ps _ _ _ U λ_ _=>Waa
 have a6:∀c v,IdOk b c->Rp W.Z (qp G R) V w c v->Rp W.Z (qp (unG h ds) R) (V2 full V) w c v:=λc v hi M=>Rp.keep M hi hz λY e0 H d4=>by
  cases Y with
  |o X=>
   obtain⟨D,T⟩:=a7 (X,.id X 1) (by rw[<- a0];simp[ju5 H]);obtain⟨u,hu⟩:=b4 X T;obtain⟨A,c2,L⟩:=J X u hu;rcases L with⟨i',f,C,x',l,post,k,M,z,_⟩|⟨k,_⟩
   ·rw[D]at k;cases k;have e:(qp (unG h ds) R (.o X)).ver=(qp G R (.o X)).ver:=by
     show(unG h ds X).ver=(G X).ver
     grind
    exact⟨U,λ_ h4=>⟨by simp[qp,vz,z],U,(F D).1⟩⟩
   grind
  |c X j=>trivial
  |r y=>exact⟨d4,λh h4=>⟨h,h4,rfl⟩⟩
 refine⟨V2 full V,HRel.ren hr.heap (sg full) rfl rfl (λi=>a6 _ _ (hg i) (hr.heap.ghost i)) (λY C H=>?_) (λY Y' g D T h3 h4 e=>?_),hr.size,hr.defers,λt=>?_⟩
 ·cases Y with
  |o X=>
   obtain⟨u,A,rfl⟩:=wct.1 (show(unG h ds X).b.map (BD.den X (unG h ds X).cv)=some C from H);obtain⟨_,I,_,L⟩:=B X u A;rcases L with⟨i,f,O,x',l,post,k,M,z,a5,N,d5,rfl⟩|⟨k,d,l,post,hn,N,rfl⟩
   ·refine .inr ⟨O.den i (G i).cv,by rw[(F k).2.1];simp[qp,vz,z],Waa,λvs k1 Q=>?_⟩;have hk:=z0s a5 N;rw[d2 X _ A];refine hk.ok hT N (λm hm=>a1 m (d5 m hm)) (λj v M=>?_) k1 Q;cases M with
    |ps _ _ _ g1 g2=>
     refine .ps _ _ _ (by show 1<=(unG h ds X).cv;grind) λg3 _=>?_;rw[((F k).2.2 j).1];refine g2 ?_ rfl;simp only[qp,zcc,A,z,wdv]at g3⊢;rw[<- hk.ch];omega
   ·obtain⟨k1,Q,_⟩:=zq7 (w:=w) (m:=W.w.heap.size) hn N X (unG h ds X).cv;exact .inl ⟨c0 k,k1,Q⟩
  |c X j=>
   rcases a3 (.c X j) C H with D|⟨a9,D,T⟩
   ·exact .inl D
   ·obtain⟨u,A,S⟩:=wdi.1 (show(unG h ds X).b.bind (λb=>b.ch j)=some C from H);obtain⟨_,I,_,L⟩:=B X u A;rcases L with⟨i,f,O,x',l,post,k,M,z,a5,N,_,rfl⟩|⟨k,d,l,post,hn,N,rfl⟩
    ·have hk:=z0s a5 N;refine .inr ⟨a9,D,T,λvs k1 Q=>?_⟩;rw[((F k).2.2 j).2]at D;rw[hk.ch]at S;simp only[qp,zcc,z,wdv,S,wdn]at D;subst D;exact⟨k1,wal Q λc hc v M=>hT c v (jio S c hc) M⟩
    ·rw[(zq7 (w:=w) (m:=0) hn N X 0).2.2 j]at S;cases S
  |r y=>exact .inr ⟨C,H,rfl,λvs k1 Q=>⟨k1,wal Q λc hc v M=>a6 c v (hR y C H c hc) M⟩⟩
 ·-- apart
  have c4:∀Y,(qp (unG h ds) R Y).body.isSome=true->qc (V2 full V Y)=some g->(∃X i f A,(X,A)∈h.heap/\zez full X=some (.id i f)/\((Y=.o X/\sg full Y=.o i)\/∃j,Y=.c X j/\sg full Y=.c i j))\/∃y,Y=.r y:=by
   intro Y hs A;cases Y with
   |o X=>
    obtain⟨C,H⟩:=wdh.1 hs;obtain⟨u,b3,rfl⟩:=wct.1 (show(unG h ds X).b.map (BD.den X (unG h ds X).cv)=some C from H);obtain⟨_,I,hm,L⟩:=B X u b3;rcases L with⟨i,f,O,x',l,post,k,_⟩|⟨k,_⟩
    ·exact .inl ⟨X,i,f,I,hm,k,.inl ⟨rfl,(F k).2.1⟩⟩
    ·rw[c0 k]at A;cases A
   |c X j=>
    obtain⟨C,H⟩:=wdh.1 hs;obtain⟨u,b3,S⟩:=wdi.1 (show(unG h ds X).b.bind (λb=>b.ch j)=some C from H);obtain⟨_,I,hm,L⟩:=B X u b3;rcases L with⟨i,f,O,x',l,post,k,_⟩|⟨k,d,l,post,hn,N,rfl⟩
    ·exact .inl ⟨X,i,f,I,hm,k,.inr ⟨j,rfl,((F k).2.2 j).2⟩⟩
    ·rw[(zq7 (w:=w) (m:=0) hn N X 0).2.2 j]at S;cases S
   |r y=>simp
  rcases c4 Y D h3 with⟨X,i,f,A,m1,l1,⟨rfl,s1⟩|⟨j,rfl,s1⟩⟩|⟨y,rfl⟩ <;>
   rcases c4 Y' T h4 with⟨X',i',c5,I,m2,l2,⟨rfl,s2⟩|⟨j',rfl,s2⟩⟩|⟨y',rfl⟩
  all_goals first
   |(rw[s1,s2]at e;cases e;done)
   |(rw[s1,s2]at e;cases e;have:=a2 _ m1 _ m2 i f c5 l1 l2;simp only at this;rw[this])
   |(rw[s1]at e;cases e;done)
   |(rw[s2]at e;cases e;done)
   |assumption
 ·have hs:=hr.slot t;show Rp _ _ _ _ ((unE h ds t).den) _;obtain⟨_,Q⟩:=zt6 (E:=E) (ds:=ds) h.slots x [] y.1 hx (by rw[<- d3];simp);rcases Q t with e|⟨s,q,l,post,D,T,h3,h4⟩
  ·have:unE h ds t=.dead:=e;rw[this];simp only[TS.den];exact .unk _
  ·have:unE h ds t=unT ds s l.length:=h4;rw[this];exact(je0 hT ds s (E t) q l post D T λm hm=>a1 m (by rw[<- a0];simp[h3 m hm])).2 _ hs
end
section
variable{A κ:Type}(D:Nat → κ → Bool)(c:Nat → κ → A)(s0:κ → A)
def st(S:Nat->Bool):Nat->κ->A
 |0,k=>s0 k
 |m+1,k=>if(S m && D m k)=true then c m k else st S m k
variable{D c s0}
def zy4{S:Nat->Bool}{i:Nat}{k:κ}:∀N,i<=N->(∀m,m<N->D m k=true->(S m=true↔m<i))->st D c s0 S N k=st D c s0 (λ_=>true) i k
 |0,a,h=>by have:i=0:=U;subst this;rfl
 |N+1,a,h=>by by_cases e:i=N+1;{subst e;have d:∀M,M<=N+1->st D c s0 S M k=st D c s0 (λ_=>true) M k:=by{intro M;induction M with|zero=>{intro _;rfl}|succ M b=>intro f;simp[st];grind};grind};.have b:=zy4 N U (λm g=>h m U);simp[st];grind
def jg4{S a:Nat->Bool}{i:Nat}{k:κ}(hi:a i=true)(b:∀m,m≠i->a m=S m):∀N,i<N->D i k=true->(∀m,i<m->m<N->D m k=true->S m=false)->st D c s0 a N k=c i k
 |0,h,_,_=>U
 |N+1,h,f,g=>by simp[st];by_cases e:i=N;{grind};.have l:=jg4 hi b N U f (λm d j=>g m d U);grind
def z78{S b:Nat->Bool}{i:Nat}{k:κ}(a:∀m,m≠i->b m=S m)(d:D i k=false):∀N,st D c s0 b N k=st D c s0 S N k
 |0=>rfl
 |N+1=>by simp[st];rw[z78 a d N];grind
def je1{S a:Nat->Bool}{k:κ}:∀N,(∀m,m<N->S m=a m)->st D c s0 S N k=st D c s0 a N k
 |0,_=>rfl
 |N+1,h=>by simp[st];rw[je1 N λm b=>h m U,h N U]
def zzz{S:Nat->Bool}{k:κ}:∀N,st D c s0 S N k=s0 k\/∃m,m<N/\D m k=true/\st D c s0 S N k=c m k
 |0 => .inl rfl
 |N+1=>by
  simp only[st];by_cases h:(S N && D N k)=true;{grind}
  .rw[if_neg h];rcases zzz N with a|⟨m,a,b,d⟩
   {exact .inl a};grind
end
inductive Waits(ops:Array Oper):Nat->Nat->Prop
 |edge {i j:Nat}{o:Oper}{e:Edge}(ho:ops[j]?=some o) (he:e∈o.after) (hb:Region.binds .any e=true) (hi:e.on=i):Waits ops i j
 |trans {i j k:Nat}(h1:Waits ops i j) (h2:Waits ops j k):Waits ops i k
def Closed(ops:Array Oper)(S:Nat->Bool):Prop:=∀j o,S j=true->ops[j]?=some o->∀e∈o.after,Region.binds .any e=true->S e.on=true
def Closed.waits{ops:Array Oper}{S:Nat->Bool}(h:Closed ops S){i j:Nat}(f:Waits ops i j):S j=true->S i=true:=by induction f with|edge d b a c=>{intro e;subst c;exact h _ _ e d _ b a}|trans _ _ g k=>grind
def jgx(a:List Nat):List Edge->Nat
 |[]=>0
 |e::r=>match Region.binds .any e with
  |true=>Nat.lor (Nat.lor (Nat.shiftLeft 1 e.on) (a.getD e.on 0)) (jgx a r)
  |false=>jgx a r
def jug:List Oper->List Nat->List Nat
 |[],a=>a
 |o::l,a=>jug l (a++[jgx a o.after.toList])
def z7h{ops:Array Oper}{b:Wam Nat}{j:Nat}{o:Oper}(f:ops[j]?=some o)(a:∀k i,Nat.testBit (b.getD k 0) i=true->Waits ops i k):∀l,(∀e∈l,e∈o.after)->∀i,Nat.testBit (jgx b l) i=true->Waits ops i j
 |[],_,i,h=>by simp[jgx]at h
 |e::l,d,i,h=>by simp[jgx]at h;split at h;{rename_i m;have g:(Nat.testBit (1 <<< e.on) i ||Nat.testBit (b.getD e.on 0) i ||Nat.testBit (jgx b l) i)=true:=by{simp_all};simp only[Bool.or_eq_true]at g;rcases g with(c|c)|c;{have:e.on=i:=by{have:=c;rw[Nat.one_shiftLeft,Nat.testBit_two_pow]at this;grind};exact .edge f (d e V) m this};{exact .trans (a _ _ c) (.edge f (d e V) m rfl)};.exact z7h f a l (λe n=>d e X) i c};.exact z7h f a l (λe n=>d e X) i h
def jhj{ops:Array Oper}:∀l a,(∀k o,l[k]?=some o->ops[a.length+k]?=some o)->(∀k i,Nat.testBit (a.getD k 0) i=true->Waits ops i k)->∀k i,Nat.testBit ((jug l a).getD k 0) i=true->Waits ops i k
 |[],a,_,h,k,i,c=>h k i c
 |o::l,a,d,h,k,i,c=>by simp[jug]at c;refine jhj l _ (λk j b=>?_) (λk i b=>?_) k i c;{have:=d (k+1) j X;grind};.rw[List.getD_eq_getElem?_getD]at b;by_cases e:k<a.length;{grind};.rw[wcz U]at b;by_cases f:k=a.length;{subst f;have g:=d 0 o rfl;simp[ wdx]at b;exact z7h g h _ (λe m=>X) i b};grind
def ids(ws:List (Nat×GB))(k:Nm):Bool:=match k.rt with
 |some i=>ws.any λx=>Nat.beq x.1 i
 |none=>false
def zlx(ws:List (Nat×GB))(k:Nm):zm8:=match ws with
 |[]=>⟨0,none⟩
 |x::r=>if ids r k=true then zlx r k else if k.rt=some x.1 then Qx x.2 k else⟨0,none⟩
def qv(H:PHeap):List (Nat×GB)->PHeap
 |[]=>H
 |x::r=>qv (zlp H x.1 x.2) r
def Y7{ws:Wam (Nat×GB)}{k:Nm}:ids ws k=true↔∃i∈ws.map Prod.fst,k.rt=some i:=by unfold ids;cases a:k.rt with|none=>{simp}|some i=>simp
def zev:∀(ws:Wam (Nat×GB))(H:Wau)(k:Nm),qv H ws k=if ids ws k=true then zlx ws k else H k
 |[],H,k=>by unfold ids;cases k.rt<;>simp[qv]
 |x::r,H,k=>by simp[qv];rw[zev r];by_cases a:ids r k=true;{rw[if_pos a];have:ids (x::r) k=true:=by{obtain⟨i,b,c⟩:=Y7.1 a;exact Y7.2 ⟨i,X,c⟩};rw[if_pos this,zlx,if_pos a]};.rw[if_neg a];unfold zlp;by_cases e:k.rt=some x.1;{have:ids (x::r) k=true:=Y7.2 ⟨x.1,V,e⟩;rw[if_pos e,if_pos this,zlx,if_neg a,if_pos e]};.rw[if_neg e];have:¬ids (x::r) k=true:=λh=>by{obtain⟨i,b,c⟩:=Y7.1 h;simp only[wc7,wda]at b;rcases b with rfl|b;{grind};.exact a (Y7.2 ⟨i,b,c⟩)};grind
structure OC where
 p:PV
 ws:List (Nat×GB)
def zw6(ops:Array Oper)(m:Nat)(t:Nat):Bool:=match (ops[m]?).bind (·.dst)with
 |some d=>Nat.beq d t
 |none=>false
def fAt(ops:Array Oper)(oc:Nat->OC)(F0:PFrame)(S:Nat->Bool)(N:Nat):PFrame:=λt=>st (zw6 ops) (λm _=>(oc m).p) F0 S N t
def hAt(oc:Nat->OC)(H0:PHeap)(S:Nat->Bool)(N:Nat):PHeap:=λk=>st (λm k=>ids (oc m).ws k) (λm k=>zlx (oc m).ws k) H0 S N k
def z8u(P:Program)(W:Env)(n:Nat)(ops:Array Oper)(o:Oper)(F:PFrame)(H:PHeap)(c:OC):Prop:=
 (Y8 ops o F=some true/\PE P W n o F H (λp a=>p=c.p/\a=qv H c.ws))\/(Y8 ops o F=some false/\Zc n o/\c.p=.u undef/\c.ws=[])
def Meet(ops:Array Oper)(rt:Nat->Nm->Bool)(oc:Nat->OC)(i j:Nat):Prop:=
 (∃t,zw6 ops i t=true/\(zw6 ops j t=true\/∃o,ops[j]?=some o/\t∈o.looksAt ops))\/(∃t,zw6 ops j t=true/\∃o,ops[i]?=some o/\t∈o.looksAt ops) \/
 (∃k,ids (oc i).ws k=true/\(ids (oc j).ws k=true\/rt j k=true))\/(∃k,ids (oc j).ws k=true/\rt i k=true)
section
variable{P:Program}{W:Env}{n:Nat}{ops:Array Oper}{oc:Nat → OC}{rt:Nat → Nm → Bool}{F0:PFrame}{H0:PHeap}
def zz3{a:Array Bool}{i:Nat}(h:i∈Region.ready .any ops a):∃o,ops[i]?=some o/\a.getD i true=false/\∀e∈o.after,Region.binds .any e=true->a.getD e.on false=true:=by obtain⟨d,b⟩:=wey.1 h;simp only[wco,wd6]at b;cases c:ops[i]? with|none=>{grind}|some o=>rw[c]at b;refine⟨o,rfl,b.1,λe g f=>?_⟩;have:=b.2;simp only[wc5,wdx,Array.all_eq_true']at this;grind
def jru{Q':Exit->Act->Wao->Prop}{Inv:Wav->Wau->Prop}(b2:∀S,Inv (fAt ops oc F0 S ops.size) (hAt oc H0 S ops.size))
  (b3:∀i o,ops[i]?=some o->∀F H,Inv F H->(∀t∈o.looksAt ops,F t=fAt ops oc F0 (λ_=>true) i t)->(∀k,(rt i k=true\/ids (oc i).ws k=true)->H k=hAt oc H0 (λ_=>true) i k)->z8u P W n ops o F H (oc i))
  (c:∀i j,i<j->j<ops.size->Meet ops rt oc i j->Waits ops i j)
  (b1:∀j o,ops[j]?=some o->∀e∈o.after,Region.binds .any e=true->e.on<j)
  (hQ:∀V a w,Rel P W n (fAt ops oc F0 (λ_=>true) ops.size) (hAt oc H0 (λ_=>true) ops.size) V a w->Q' .normal a w) :
  ∀q b V a w,b.size=ops.size->((range ops.size).filter λi=>!b.getD i false).length<=q->Closed ops (λi=>b.getD i false) ->
   Rel P W n (fAt ops oc F0 (λi=>b.getD i false) ops.size) (hAt oc H0 (λi=>b.getD i false) ops.size) V a w->wpAny P .any ops Q' q b a w:=by
 have B:∀b V a w,b.size=ops.size->Region.ready .any ops b=[]->Rel P W n (fAt ops oc F0 (λi=>b.getD i false) ops.size) (hAt oc H0 (λi=>b.getD i false) ops.size) V a w->Q' .normal a w:=by
  intro b V a w C hr f;have Q:∀m,m<ops.size->b.getD m false=true:=by
   intro m;induction m using Nat.strongRecOn with
   |ind m ih=>
    intro s;cases T:b.getD m false
    ·exfalso;have:m∈Region.ready .any ops b:=by
      unfold Region.ready;refine wey.2 ⟨weq.2 s,?_⟩;have A:=wdf s;have c2:b.getD m true=false:=by
       rw[wdo,wdf U]at T⊢;simpa using T
      rw[A];simp only[c2,Bool.not_false,weu,wc5,wdx,Array.all_eq_true'];intro e he;cases R:Region.binds .any e
      ·rfl
      ·have:=b1 m _ A e he R;simp only[Bool.not_true,Bool.false_or];exact ih _ this U
     rw[hr]at this;cases this
    rfl
  refine hQ V a w ?_;have e1:fAt ops oc F0 (λi=>b.getD i false) ops.size=fAt ops oc F0 (λ_=>true) ops.size:=by
   funext t;exact je1 _ λm s=>by simp[Q m s]
  have e2:hAt oc H0 (λi=>b.getD i false) ops.size=hAt oc H0 (λ_=>true) ops.size:=by
   funext t;exact je1 _ λm s=>by simp[Q m s]
  rwa [<- e1,<- e2]
 intro q;induction q with
 |zero=>
  intro b V a w C hf L f;have Y:Region.ready .any ops b=[]:=by
   cases hr:Region.ready .any ops b with
   |nil=>rfl
   |cons i r=>
    exfalso;have hi:i∈Region.ready .any ops b:=by rw[hr];simp
    obtain⟨o,A,T,_⟩:=zz3 hi;have z:=(wde.1 A).1;have:i∈(range ops.size).filter λi=>!b.getD i false:=by
     refine wey.2 ⟨weq.2 z,?_⟩;rw[wdo,wdf U]at T⊢;simpa using T
    have:=List.length_pos_of_mem this;omega
  exact⟨Y,B b V a w C Y f⟩
 |succ q ih=>
  intro b V a w C hf L f;refine⟨λh0=>B b V a w C h0 f,λi hi=>?_⟩;obtain⟨o,A,T,b0⟩:=zz3 hi;have z:=(wde.1 A).1;have O:b.getD i false=false:=by
   rw[wdo,wdf U]at T⊢;simpa using T
  have g:∀m,(b.setIfInBounds i true).getD m false=if m=i then true else b.getD m false:=by
   intro m;simp only[wdo];by_cases e:m=i
   ·subst e;rw[if_pos rfl,Array.getElem?_setIfInBounds_self_of_lt U];rfl
   ·rw[if_neg e,we3 (λh=>e h.symm)]
  have Z:∀m,Waits ops m i->b.getD m false=true:=by
   intro m hw;have d0:∀{x y:Nat},Waits ops x y->y=i->b.getD x false=true:=by
    intro x y c7;induction c7 with
    |edge b4 he R c3=>
     intro e;subst e;rw[A]at b4;cases b4;rw[<- c3];exact b0 _ he R
    |trans D I d9 c9=>
     intro e;have:=c9 e;exact L.waits D this
   exact d0 hw rfl
  have v:∀m,Waits ops i m->b.getD m false=false:=by
   intro m hw;cases s:b.getD m false
   ·rfl
   ·exact absurd (L.waits hw s) (by rw[O];simp)
  have a0:∀t∈o.looksAt ops,fAt ops oc F0 (λi=>b.getD i false) ops.size t=fAt ops oc F0 (λ_=>true) i t:=by
   intro t ht;refine zy4 _ U λm s G=>?_;rcases Nat.lt_trichotomy m i with h|h|h
   ·have:=Z m (c m i h z (.inl ⟨t,G,.inr ⟨o,A,ht⟩⟩));exact⟨λ_=>h,λ_=>this⟩
   ·subst h;simp[O]
   ·have:=v m (c i m h s (.inr (.inl ⟨t,G,o,A,ht⟩)));simp[this];omega
  have J:∀k,(rt i k=true\/ids (oc i).ws k=true)->hAt oc H0 (λi=>b.getD i false) ops.size k=hAt oc H0 (λ_=>true) i k:=by
   intro k hk;refine zy4 _ U λm s G=>?_;rcases Nat.lt_trichotomy m i with h|h|h
   ·have:=Z m (c m i h z (.inr (.inr (.inl ⟨k,G,hk.symm⟩))));exact⟨λ_=>h,λ_=>this⟩
   ·subst h;simp[O]
   ·have:Waits ops i m:=by
     rcases hk with hk|hk
     ·exact c i m h s (.inr (.inr (.inr ⟨k,G,hk⟩)))
     ·exact c i m h s (.inr (.inr (.inl ⟨k,hk,.inl G⟩)))
    have:=v m this;simp[this];omega
  have a2:=b3 i o A _ _ (b2 _) a0 J;have b8:fAt ops oc F0 (λm=>(b.setIfInBounds i true).getD m false) ops.size=(fAt ops oc F0 (λm=>b.getD m false) ops.size).put o.dst (oc i).p:=by
   funext t;unfold PFrame.put;by_cases e:o.dst=some t
   ·rw[if_pos e];have N:zw6 ops i t=true:=by unfold zw6;rw[A];simp[e]
    exact jg4 (by simp[g]) (λm s=>((g m).trans (if_neg s))) ops.size z N λm D I h3=>(v m (c i m D I (.inl ⟨t,N,.inl h3⟩)))
   ·rw[if_neg e];have N:zw6 ops i t=false:=by
     unfold zw6;rw[A];simp[wdv];cases G:o.dst with
     |none=>rfl
     |some d=>
      simp only;cases R:Nat.beq d t
      ·rfl
      ·rw[G,wcn R]at e;exact absurd rfl e
    exact z78 (λm s=>(g m).trans (if_neg s)) N ops.size
  have b9:hAt oc H0 (λm=>(b.setIfInBounds i true).getD m false) ops.size=qv (hAt oc H0 (λm=>b.getD m false) ops.size) (oc i).ws:=by
   funext k;rw[zev];by_cases e:ids (oc i).ws k=true
   ·rw[if_pos e];exact jg4 (by simp[g]) (λm s=>(g m).trans (if_neg s)) ops.size z e λm D I h3=>(v m (c i m D I (.inr (.inr (.inl ⟨k,e,.inl h3⟩)))))
   ·rw[if_neg e];have e':ids (oc i).ws k=false:=by cases hh:ids (oc i).ws k;rfl;exact absurd hh e
    exact z78 (λm s=>(g m).trans (if_neg s)) e' ops.size
  have a9:Closed ops (λm=>(b.setIfInBounds i true).getD m false):=by
   intro j oj hj a1 e he R;simp only[g]at hj⊢;by_cases I:e.on=i
   ·rw[if_pos I]
   ·rw[if_neg I];by_cases D:j=i
    ·subst D;rw[A]at a1;cases a1;exact b0 e he R
    ·rw[if_neg D]at hj;exact L j oj hj a1 e he R
  have M:((range ops.size).filter λm=>!(b.setIfInBounds i true).getD m false).length<=q:=by
   have D:i∈(range ops.size).filter λi=>!b.getD i false:=wey.2 ⟨weq.2 z,by simp[O]⟩;have I:((range ops.size).filter λm=>!(b.setIfInBounds i true).getD m false)=((range ops.size).filter λi=>!b.getD i false).filter λm=>decide (m≠i):=by
    rw[List.filter_filter];refine List.filter_congr λm _=>?_;rw[g];by_cases e:m=i
    ·subst e;simp
    ·simp[e]
   rw[I];have:=List.length_filter_lt_length_iff_exists (p:=λm=>decide (m≠i)) (l:=(range ops.size).filter λi=>!b.getD i false);have:=this.2 ⟨i,D,Waf⟩;omega
  have next:∀V' a' w',Rel P W n ((fAt ops oc F0 (λm=>b.getD m false) ops.size).put o.dst (oc i).p) (qv (hAt oc H0 (λm=>b.getD m false) ops.size) (oc i).ws) V' a' w'->wpAny P .any ops Q' q (b.setIfInBounds i true) a' w':=λV' a' w' b5=>
   ih _ V' a' w' (by simp[C]) M a9 (by rw[b8,b9];exact b5)
  unfold wpOp;simp[A];rcases a2 with⟨hw,c4⟩|⟨hw,G,hp,c6⟩
  ·rw[zd2 hw f.slot];simp[if_true];exact .inl (ji9 (c4 V a w f) λa' w'⟨p,H',V',⟨e1,e2⟩,b5⟩=>next V' a' w' X)
  ·rw[zd2 hw f.slot];simp[wdr,if_false];refine next V _ w ?_
   rw[hp,c6];exact f.put (Below.refl _ _) o.dst G (.u _)
def wbv{id:Nat}{Q:Exit->Wav->Wau->Prop}{Inv:Wav->Wau->Prop}(f:∀S,Inv (fAt ops oc F0 S ops.size) (hAt oc H0 S ops.size))(hm:P.follows .mixedOrders=true)
  (g:∀i o,ops[i]?=some o->∀F H,Inv F H->(∀t∈o.looksAt ops,F t=fAt ops oc F0 (λ_=>true) i t)->(∀k,(rt i k=true\/ids (oc i).ws k=true)->H k=hAt oc H0 (λ_=>true) i k)->z8u P W n ops o F H (oc i))
  (b:∀i j,i<j->j<ops.size->Meet ops rt oc i j->Waits ops i j)
  (d:∀j o,ops[j]?=some o->∀e∈o.after,Region.binds .any e=true->e.on<j)
  (r:Q .normal (fAt ops oc F0 (λ_=>true) ops.size) (hAt oc H0 (λ_=>true) ops.size)):PC P W n (.region id ops true) F0 H0 Q:=λV a w v u h=>by
 refine wp_region_any hm ?_;have h0:∀i,(Array.replicate ops.size false).getD i false=false:=by
  intro i;rw[wdo,Array.getElem?_replicate]
  grind
 have s:=funext h0;have m:∀{A κ:Type}D c(s0:κ->A)N k,st D c s0 (λ_=>false) N k=s0 k:=by
  intro A κ D c s0 N k;induction N with
  |zero=>rfl
  |succ N B=>assumption
 refine jru f g b d (λx y C l=>h _ _ _ _ _ _ r l) ops.size _ V a _ Waf ?_ ?_ ?_
 ·grind
 ·intro j o z;grind
 ·rw[s];have p:fAt ops oc F0 (λ_=>false) ops.size=F0:=by funext t;exact m _ _ _ _ _
  have q:hAt oc H0 (λ_=>false) ops.size=H0:=by funext t;exact m _ _ _ _ _
  rw[p,q];exact u.drawn
end
end
end Go.Proofs.YtiafpechgjopfaaGreatDoor.T
