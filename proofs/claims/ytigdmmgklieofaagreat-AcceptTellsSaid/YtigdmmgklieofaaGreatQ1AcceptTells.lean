import Derived.Shelf.Small.Bits
import Derived.Shelf.Strconv.Itoa0
import Derived.Shelf.Sort.Plain
import Derived.Ground.Names2Prog
import Derived.Shelf.Slices.Clone
import Derived.Shelf.Slices.CompactI
import Derived.Shelf.Slices.SearchI
import Derived.Shelf.Slices.Cells
import Derived.Shelf.Slices.In.SortNone
import Derived.Shelf.Slices.Empties
import Derived.Ground.SlgnProg
import Derived.Shelf.SlicesE.Clone
import Derived.Test.YtigdmmgklieofaaGreatProg
import Derived.WalkKit
import Derived.StillTail
import Derived.Deep.Quiet
import Derived.Laws.MakeOwn
import Derived.IntWalk
import Derived.Lib.Hide
import Derived.Test.YtigdmmgklieofaaGreatRows
import Derived.Outline
import Derived.Deep.QuietTactic
import Derived.BigQuiet
import Derived.WalkSmall
import Derived.StillTailTactics
import Derived.Lib.SlicesCompact
import Derived.Sort.OwnSortedInts
import Derived.Lib.OwnBridge
import Derived.Scope
import Derived.MapKept
import Derived.Laws.StructEq
import Derived.Laws.BytesArg
import Derived.Maps.RangeRun
import Derived.WideKeyEntry
namespace Go.Proofs.YtigdmmgklieofaaGreat
theorem wcd : type_of% @of_decide_eq_true := @of_decide_eq_true
theorem wce : type_of% @of_decide_eq_false := @of_decide_eq_false
theorem wcf : type_of% @List.getElem?_eq_getElem := @List.getElem?_eq_getElem
theorem wcg : type_of% @List.getElem?_eq_some_iff := @List.getElem?_eq_some_iff
theorem wch : type_of% @List.length_replicate := @List.length_replicate
theorem wci : type_of% @List.mem_singleton := @List.mem_singleton
theorem wcj : type_of% @Nat.eq_of_beq_eq_true := @Nat.eq_of_beq_eq_true
theorem wck : type_of% @List.mem_of_getElem? := @List.mem_of_getElem?
theorem wcl : type_of% @Bool.and_eq_true := @Bool.and_eq_true
theorem wcm : type_of% @List.getElem_mem := @List.getElem_mem
theorem wcn : type_of% @List.take_succ_eq_append_getElem := @List.take_succ_eq_append_getElem
theorem wco : type_of% @List.mem_append := @List.mem_append
theorem wcp : type_of% @List.getElem?_map := @List.getElem?_map
theorem wcq : type_of% @Nat.le_refl := @Nat.le_refl
theorem wcr : type_of% @List.getElem?_append_left := @List.getElem?_append_left
theorem wcs : type_of% @Option.map_eq_some_iff := @Option.map_eq_some_iff
theorem wct : type_of% @List.getElem?_append_right := @List.getElem?_append_right
theorem wcu : type_of% @List.length_append := @List.length_append
theorem wcv : type_of% @List.length_map := @List.length_map
theorem wcw : type_of% @decide_eq_false := @decide_eq_false
theorem wcx : type_of% @Int.toNat_natCast := @Int.toNat_natCast
theorem wcy : type_of% @decide_eq_true_eq := @decide_eq_true_eq
theorem wcz : type_of% @List.mem_map := @List.mem_map
theorem wc0 : type_of% @List.drop_eq_getElem_cons := @List.drop_eq_getElem_cons
theorem wc1 : type_of% @List.mem_cons := @List.mem_cons
theorem wc2 : type_of% @List.take_length := @List.take_length
theorem wc3 : type_of% @Option.map_some := @Option.map_some
theorem wc4 : type_of% @List.map_cons := @List.map_cons
theorem wc5 : type_of% @List.length_singleton := @List.length_singleton
theorem wc6 : type_of% @List.append_assoc := @List.append_assoc
theorem wc7 : type_of% @List.append_nil := @List.append_nil
theorem wc8 : type_of% @List.getElem?_set := @List.getElem?_set
theorem wc9 : type_of% @decide_eq_true := @decide_eq_true
theorem wda : type_of% @Option.getD_some := @Option.getD_some
theorem wdb : type_of% @List.map_append := @List.map_append
theorem wdc : type_of% @List.getElem?_of_mem := @List.getElem?_of_mem
theorem wdd : type_of% @List.flatMap_cons := @List.flatMap_cons
theorem wde : type_of% @List.eq_nil_of_length_eq_zero := @List.eq_nil_of_length_eq_zero
theorem wdf : type_of% @List.getElem?_replicate := @List.getElem?_replicate
theorem wdg : type_of% @List.getD_eq_getElem?_getD := @List.getD_eq_getElem?_getD
theorem wdh : type_of% @Array.getElem?_eq_some_iff := @Array.getElem?_eq_some_iff
theorem wdi : type_of% @Option.isSome_iff_exists := @Option.isSome_iff_exists
theorem wdj : type_of% @Array.getElem?_eq_getElem := @Array.getElem?_eq_getElem
theorem wdk : type_of% @Nat.le_trans := @Nat.le_trans
theorem wdl : type_of% @List.length_take := @List.length_take
theorem wdm : type_of% @Option.bind_eq_some_iff := @Option.bind_eq_some_iff
theorem wdn : type_of% @Option.some.injEq := @Option.some.injEq
theorem wdo : type_of% @Nat.zero_add := @Nat.zero_add
theorem wdp : type_of% @Bool.false_eq_true := @Bool.false_eq_true
theorem wdq : type_of% @List.take_append_drop := @List.take_append_drop
theorem wdr : type_of% @Option.bind_some := @Option.bind_some
theorem wds : type_of% @List.mem_flatMap := @List.mem_flatMap
theorem wdt : type_of% @List.getElem?_eq_none := @List.getElem?_eq_none
theorem wdu : type_of% @List.drop_eq_nil_of_le := @List.drop_eq_nil_of_le
theorem wdv : type_of% @List.getElem?_drop := @List.getElem?_drop
theorem wdw : type_of% @List.length_drop := @List.length_drop
theorem wdx : type_of% @List.all_eq_true := @List.all_eq_true
theorem wdy : type_of% @List.length_cons := @List.length_cons
theorem wdz : type_of% @Option.some.inj := @Option.some.inj
theorem wd0 : type_of% @Array.getD_eq_getD_getElem? := @Array.getD_eq_getD_getElem?
theorem wd1 : type_of% @List.pairwise_cons := @List.pairwise_cons
theorem wd2 : type_of% @Nat.le_of_ble_eq_true := @Nat.le_of_ble_eq_true
theorem wd3 : type_of% @List.drop_length := @List.drop_length
theorem wd4 : type_of% @List.take_of_length_le := @List.take_of_length_le
theorem wd5 : type_of% @Nat.add_zero := @Nat.add_zero
theorem wd6 : type_of% @Nat.add_mul := @Nat.add_mul
theorem wd7 : type_of% @List.getElem?_take := @List.getElem?_take
theorem wd8 : type_of% @List.map_map := @List.map_map
theorem wd9 : type_of% @List.mem_or_eq_of_mem_set := @List.mem_or_eq_of_mem_set
theorem wea : type_of% @Bool.true_and := @Bool.true_and
theorem web : type_of% @List.length_set := @List.length_set
theorem wec : type_of% @List.getElem?_set_ne := @List.getElem?_set_ne
theorem wed : type_of% @List.map_nil := @List.map_nil
theorem wee : type_of% @List.ext_getElem? := @List.ext_getElem?
theorem wef : type_of% @List.mem_range := @List.mem_range
theorem weg : type_of% @Bool.not_eq_true' := @Bool.not_eq_true'
theorem weh : type_of% @Int.eq_ofNat_of_zero_le := @Int.eq_ofNat_of_zero_le
theorem wei : type_of% @List.nil_append := @List.nil_append
theorem wej : type_of% @List.foldl_append := @List.foldl_append
theorem wek : type_of% @Classical.not_not := @Classical.not_not
theorem wel : type_of% @List.getElem?_set_self := @List.getElem?_set_self
theorem wem : type_of% @Nat.zero_le := @Nat.zero_le
theorem wen : type_of% @List.length_filter_le := @List.length_filter_le
theorem weo : type_of% @List.map_congr_left := @List.map_congr_left
theorem wep : type_of% @List.any_eq_true := @List.any_eq_true
theorem weq : type_of% @Nat.add_sub_cancel_left := @Nat.add_sub_cancel_left
theorem wer : type_of% @List.pairwise_append := @List.pairwise_append
theorem wes : type_of% @Nat.mul_le_mul_right := @Nat.mul_le_mul_right
theorem wet : type_of% @List.getElem?_mapIdx := @List.getElem?_mapIdx
theorem weu : type_of% @Classical.byContradiction := @Classical.byContradiction
theorem wev : type_of% @Nat.beq_refl := @Nat.beq_refl
theorem wew : type_of% @List.getElem_of_mem := @List.getElem_of_mem
theorem wex : type_of% @List.flatMap_append := @List.flatMap_append
theorem wey : type_of% @List.mem_filter := @List.mem_filter
theorem wez : type_of% @List.mem_of_mem_take := @List.mem_of_mem_take
theorem we0 : type_of% @Nat.add_assoc := @Nat.add_assoc
theorem we1 : type_of% @List.drop_left' := @List.drop_left'
theorem we2 : type_of% @List.getElem?_cons_zero := @List.getElem?_cons_zero
theorem we3 : type_of% @List.getElem?_cons_succ := @List.getElem?_cons_succ
theorem we4 : type_of% @List.cons_append := @List.cons_append
theorem we5 : type_of% @List.findIdx_lt_length_of_exists := @List.findIdx_lt_length_of_exists
theorem we6 : type_of% @List.mapM_cons := @List.mapM_cons
theorem we7 : type_of% @List.filter_append := @List.filter_append
theorem we8 : type_of% @List.mem_cons_of_mem := @List.mem_cons_of_mem
theorem we9 : type_of% @List.mem_of_mem_drop := @List.mem_of_mem_drop
theorem wfa : type_of% @List.length_eq_zero_iff := @List.length_eq_zero_iff
theorem wfb : type_of% @List.length_nil := @List.length_nil
theorem wfc : type_of% @Int.natCast_add := @Int.natCast_add
theorem wfd : type_of% @Nat.lt_succ_self := @Nat.lt_succ_self
theorem wfe : type_of% @List.Pairwise.sublist := @List.Pairwise.sublist
theorem wff : type_of% @List.pairwise_iff_getElem := @List.pairwise_iff_getElem
theorem wfg : type_of% @Array.getElem?_setIfInBounds_ne := @Array.getElem?_setIfInBounds_ne
theorem wfh : type_of% @List.take_left' := @List.take_left'
theorem wfi : type_of% @List.range_eq_range' := @List.range_eq_range'
theorem wfj : type_of% @List.mem_append_left := @List.mem_append_left
theorem wfk : type_of% @Nat.blt_eq := @Nat.blt_eq
theorem wfl : type_of% @List.nodup_cons := @List.nodup_cons
theorem wfm : type_of% @Prod.mk.injEq := @Prod.mk.injEq
theorem wfn : type_of% @List.take_append_of_le_length := @List.take_append_of_le_length
theorem wfo : type_of% @decide_eq_decide := @decide_eq_decide
theorem wfp : type_of% @List.ext_getElem := @List.ext_getElem
theorem wfq : type_of% @Nat.lt_of_lt_of_le := @Nat.lt_of_lt_of_le
theorem wfr : type_of% @Nat.add_comm := @Nat.add_comm
theorem wfs : type_of% @List.mem_cons_self := @List.mem_cons_self
theorem wft : type_of% @Nat.min_eq_left := @Nat.min_eq_left
theorem wfu : type_of% @List.nodup_append := @List.nodup_append
theorem wfv : type_of% @List.map_toArray := @List.map_toArray
theorem wfw : type_of% @Nat.succ_mul := @Nat.succ_mul
theorem wfx : type_of% @List.flatMap_nil := @List.flatMap_nil
theorem wfy : type_of% @Nat.sub_self := @Nat.sub_self
theorem wfz : type_of% @Bool.false_or := @Bool.false_or
theorem wf0 : type_of% @List.cons.injEq := @List.cons.injEq
theorem wf1 : type_of% @Nat.mul_one := @Nat.mul_one
end Go.Proofs.YtigdmmgklieofaaGreat

namespace Go.Proofs
noncomputable section
open Tryz
set_option maxRecDepth 100000
set_option maxHeartbeats 8000000
set_option linter.unusedVariables false
set_option linter.unusedSimpArgs false
open Go.Shelf
def waz:Go.Shelf.Ren:=⟨λ|189=>182|125=>225|257=>224|128=>268|129=>269|294=>260|295=>261|296=>262|297=>263|298=>264|299=>265|216=>258|300=>266|301=>267|328=>279|329=>280|330=>281|331=>282|332=>283|215=>278|343=>292|n=>n,λ|28=>31|3=>3|46=>209|0=>0|51=>94|53=>123|4=>4|183=>304|182=>303|131=>221|5=>5|9=>9|218=>316|222=>320|228=>329|229=>330|n=>n,λ|n=>n⟩
theorem wav:Go.Proofs.Lays.n189 Tryz.prog waz:={
 mixed:=by kernel_rfl
 f125:=func225.trans (congrArg some (by kernel_rfl))
 f128:=func268.trans (congrArg some (by kernel_rfl))
 f129:=func269.trans (congrArg some (by kernel_rfl))
 f189:=func182.trans (congrArg some (by kernel_rfl))
 f215:=func278.trans (congrArg some (by kernel_rfl))
 f216:=func258.trans (congrArg some (by kernel_rfl))
 f257:=func224.trans (congrArg some (by kernel_rfl))
 f294:=func260.trans (congrArg some (by kernel_rfl))
 f295:=func261.trans (congrArg some (by kernel_rfl))
 f296:=func262.trans (congrArg some (by kernel_rfl))
 f297:=func263.trans (congrArg some (by kernel_rfl))
 f298:=func264.trans (congrArg some (by kernel_rfl))
 f299:=func265.trans (congrArg some (by kernel_rfl))
 f300:=func266.trans (congrArg some (by kernel_rfl))
 f301:=func267.trans (congrArg some (by kernel_rfl))
 f328:=func279.trans (congrArg some (by kernel_rfl))
 f329:=func280.trans (congrArg some (by kernel_rfl))
 f330:=func281.trans (congrArg some (by kernel_rfl))
 f331:=func282.trans (congrArg some (by kernel_rfl))
 f332:=func283.trans (congrArg some (by kernel_rfl))
 f343:=func292.trans (congrArg some (by kernel_rfl))
 t0:=underlying0
 a0:=isAgg0
 z0:=sizeOf0
 v0:=zeroValue0
 t3:=underlying3
 a3:=isAgg3
 z3:=sizeOf3
 v3:=zeroValue3
 t4:=underlying4
 a4:=isAgg4
 z4:=sizeOf4
 v4:=zeroValue4
 t5:=underlying5
 a5:=isAgg5
 z5:=sizeOf5
 v5:=zeroValue5
 t9:=underlying9
 a9:=isAgg9
 z9:=sizeOf9
 v9:=zeroValue9
 t28:=underlying31
 a28:=isAgg31
 z28:=sizeOf31
 v28:=zeroValue31
 t46:=underlying209
 a46:=isAgg209
 z46:=sizeOf209
 v46:=zeroValue209
 t51:=underlying94
 a51:=isAgg94
 z51:=sizeOf94
 v51:=zeroValue94
 t53:=underlying123
 a53:=isAgg123
 z53:=sizeOf123
 v53:=zeroValue123
 t131:=underlying221
 a131:=isAgg221
 z131:=sizeOf221
 v131:=zeroValue221
 t182:=underlying303
 a182:=isAgg303
 z182:=sizeOf303
 v182:=zeroValue303
 t183:=underlying304
 a183:=isAgg304
 z183:=sizeOf304
 v183:=zeroValue304
 t218:=underlying316
 a218:=isAgg316
 z218:=sizeOf316
 v218:=zeroValue316
 t222:=underlying320
 a222:=isAgg320
 z222:=sizeOf320
 v222:=zeroValue320
 t228:=underlying329
 a228:=isAgg329
 z228:=sizeOf329
 v228:=zeroValue329
 t229:=underlying330
 a229:=isAgg330
 z229:=sizeOf330
 v229:=zeroValue330 }
open Go.Sort Go.RowKit in
theorem Tryz.slices_Sort_int(a off cap:Nat)(c:List Int)(w:World)(f:Holds (Value.int .i64) w a off c.toArray)(b:a<w.heap.size)(d:c.length<4611686018427387904):
  Calls Tryz.prog 182 #[.slice (some ⟨a,off,none⟩) c.length cap] w λe h=>
   e=.returned (.tuple #[])/\∃n g,h=grow (putRow (Value.int .i64) (Sort.ahead w n) a off (c.mergeSort λx y=>decide (x<=y)).toArray) g:=Any.slices_Sort_int wav a off cap c w f b d
def wat:Go.Shelf.Ren:=⟨λ|15=>109|n=>n,λ|22=>31|3=>3|4=>4|n=>n,λ|n=>n⟩
theorem wam:Go.Proofs.Lays2.n15 Tryz.prog wat:={
 mixed:=by kernel_rfl
 f15:=func109.trans (congrArg some (by kernel_rfl))
 t3:=underlying3
 a3:=isAgg3
 z3:=sizeOf3
 v3:=zeroValue3
 t4:=underlying4
 a4:=isAgg4
 z4:=sizeOf4
 v4:=zeroValue4
 t22:=underlying31
 a22:=isAgg31
 z22:=sizeOf31
 v22:=zeroValue31
 i3:=by kernel_rfl }
open Go.RowKit Go.Lib in
theorem Tryz.slices_Clone_int(b off n c:Nat)(d:List Int)(w:World)(hz:n<=d.length)(a:n*8<=140737488355328)(h:∀j,j<d.length->w.cell? ⟨b,off+j,none⟩=some (.int .i64 (d.getD j 0))):
  Calls Tryz.prog 109 #[.slice (some ⟨b,off,none⟩) n c] w λe g=>∃f,e=.returned f/\g.ownsRow w.heap.size 3 1 f n ((d.take n).map (Value.int .i64))/\f ≠ .slice none 0 0/\Below w.heap.size w g:=Any.slices_Clone_int wam b off n c d w hz a h
open Go.RowKit Go.Lib in
theorem Tryz.slices_Clone_int_nil(n c:Nat)(w:World):
  Calls Tryz.prog 109 #[.slice none n c] w λe a=>e=.returned (.slice none 0 0)/\a=w:=Any.slices_Clone_int_nil wam n c w
open Go.RowKit Go.Lib in
theorem Tryz.slices_Clone_int_zero(a:Addr)(c:Nat)(w:World):
  Calls Tryz.prog 109 #[.slice (some a) 0 c] w λe d=>∃b,e=.returned b/\d.ownsRow w.heap.size 3 1 b 0 []/\b ≠ .slice none 0 0/\Below w.heap.size w d:=Any.slices_Clone_int_zero wam a c w
def was:Go.Shelf.Ren:=⟨λ|20=>183|n=>n,λ|22=>31|3=>3|4=>4|0=>0|n=>n,λ|n=>n⟩
theorem war:Go.Proofs.Lays2.n20 Tryz.prog was:={
 mixed:=by kernel_rfl
 f20:=func183.trans (congrArg some (by kernel_rfl))
 t0:=underlying0
 a0:=isAgg0
 z0:=sizeOf0
 v0:=zeroValue0
 t3:=underlying3
 a3:=isAgg3
 z3:=sizeOf3
 v3:=zeroValue3
 t4:=underlying4
 a4:=isAgg4
 z4:=sizeOf4
 v4:=zeroValue4
 t22:=underlying31
 a22:=isAgg31
 z22:=sizeOf31
 v22:=zeroValue31
 i3:=by kernel_rfl }
open Go.RowKit Go.Lib Go.Sort in
theorem Tryz.slices_Compact_int(a off cap:Nat)(b:List Int)(w:World)(f:Holds (Value.int .i64) w a off b.toArray)(d:b.length<=9223372036854775807)(c:b.length<=cap):
  Calls Tryz.prog 183 #[.slice (some ⟨a,off,none⟩) b.length cap] w λe g=>e=.returned (.slice (some ⟨a,off,none⟩) (Lib.compact b).length cap)/\∃q,g=putRow (Value.int .i64) (Sort.ahead w q) a off (Lib.compact b++List.replicate (b.length-(Lib.compact b).length) 0).toArray:=Any.slices_Compact_int war a off cap b w f d c
open Go.RowKit Go.Lib Go.Sort in
theorem Tryz.slices_Compact_int_empty(a:Option Addr)(cap:Nat)(w:World):
  Calls Tryz.prog 183 #[.slice a 0 cap] w λe b=>e=.returned (.slice a 0 cap)/\b=w:=Any.slices_Compact_int_empty war a cap w
open Go.RowKit Go.Sort in
theorem Tryz.slices_Sort_int_none(p:Option Addr)(cap:Nat)(w:World):
  Calls Tryz.prog 182 #[.slice p 0 cap] w λe a=>e=.returned (.tuple #[])/\a=w:=Any.slices_Sort_int_none wav p cap w
end
end Go.Proofs
namespace Go.Proofs.YtigdmmgklieofaaGreat.L
noncomputable section
set_option maxRecDepth 100000
set_option maxHeartbeats 8000000
set_option linter.unusedVariables false
set_option linter.unusedSimpArgs false
open Go Go.RowKit
inductive Nm where
 |o (i:Nat)
 |c (i j:Nat)
 |r (x:Nm)
 deriving DecidableEq
def Nm.rt:Nm->Option Nat
 |.o i=>some i
 |.c i _=>some i
 |.r _=>none
inductive PV where
 |u (v:Value)
 |unk
 |agg (cs:List PV)
 |tup (cs:List PV)
 |sl (k:Nat) (xs:List PV)
 |fr (t:TypeId) (k:Nat) (xs:List PV)
 |rp (cs:List PV)
 |ps (id:Nm) (ver:Nat)
 |qs (id:Nm) (off k ver:Nat)
 |pp (id:Nm) (off ver:Nat)
 |fn (f:Fn) (a b:List PV)
 deriving Inhabited
def PV.cells:PV->List PV
 |.agg cs=>cs
 |p=>[p]
inductive PBody where
 |row (t:TypeId) (k n:Nat) (cs:List PV)
 |box (t:TypeId) (cs:List PV)
 |raw (p:Bool) (cs:List PV) (φ:Nat->Obj->List Value->Prop)
 |que (t:TypeId) (k n:Nat) (cs:List PV)
structure zlj where
 ver:Nat
 body:Option PBody
abbrev PHeap:=Nm->zlj
abbrev PFrame:=Nat->PV
def PHeap.empty:PHeap:=λ_=>⟨0,none⟩
def PHeap.set(H:PHeap)(id:Nm)(b:zlj):PHeap:=λi=>if i=id then b else H i
def PFrame.put(F:PFrame)(d:Option Nat)(p:PV):PFrame:=λt=>if d=some t then p else F t
def zrj(off k:Nat)(V v:Value):Prop:=
 ∃a n c d,V=.slice a n c/\v=.slice d (n-off) (c-off)/\off<=n/\n<=c/\((a=none/\d=none)\/∃b o,a=some ⟨b,0,none⟩/\d=some ⟨b,o,none⟩/\(o=off*k\/c=off))
def joq(p:Bool)(g:Nat):Value:=match p with
 |true => .pointer (some ⟨g,0,none⟩)
 |false => .map (some g)
def jf8(es:List (Value×Value)):PBody :=.raw false [] λ_ o _=>∃arr a,o=.map arr a/\arr.toList.map (λe=>(e.key,e.val))=es
def qf:Value->Option Nat
 |.slice (some a) _ _=>some a.block
 |.pointer (some a)=>some a.block
 |.map (some b)=>some b
 |_=>none
def zc5:Value->Nat
 |.slice (some a) _ _=>a.off
 |_=>0
theorem znw(p:Bool)(g:Nat):qf (joq p g)=some g:=by cases p<;>rfl
structure ZM where
 z:Nat->Prop
 m:Nat
instance:CoeFun ZM λ_=>Nat->Prop:=⟨ZM.z⟩
def PZ(Z:ZM)(H:PHeap)(V:Nm->Value)(b:Nat):Prop:=Z b\/∃id,(H id).body.isSome=true/\qf (V id)=some b
inductive Rp(Z:ZM)(H:PHeap)(V:Nm->Value)(w:World):PV->Value->Prop
 |u (v:Value):Rp Z H V w (.u v) v
 |unk (v:Value):Rp Z H V w .unk v
 |agg (cs:List PV) (vs:Array Value) (hl:cs.length=vs.size) (h:∀(i:Nat)(p:PV)(v:Value),cs[i]?=some p->vs[i]?=some v->Rp Z H V w p v):Rp Z H V w (.agg cs) (.agg vs)
 |tup (cs:List PV) (vs:Array Value) (hl:cs.length=vs.size) (h:∀(i:Nat)(p:PV)(v:Value),cs[i]?=some p->vs[i]?=some v->Rp Z H V w p v):Rp Z H V w (.tup cs) (.tuple vs)
 |nil (k:Nat) (a:Option Addr) (c:Nat):Rp Z H V w (.sl k []) (.slice a 0 c)
 |sl (k:Nat) (xs:List PV) (b o c:Nat) (g:Nat->Value) (hu:∀y∈xs,y.cells.length=k) (hlen:xs.length<=c)
   (hz:¬PZ Z H V b) (hb:b<w.heap.size)
   (h1:∀(i:Nat)(p:PV),(xs.flatMap PV.cells)[i]?=some p->w.cell? ⟨b,o+i,none⟩=some (g i))
   (h2:∀(i:Nat)(p:PV),(xs.flatMap PV.cells)[i]?=some p->Rp Z H V w p (g i)):Rp Z H V w (.sl k xs) (.slice (some ⟨b,o,none⟩) xs.length c)
 |fr (t:TypeId) (k:Nat) (xs:List PV) (v:Value) (vals:List Value) (hu:∀y∈xs,y.cells.length=k) (ho:w.ownsRow Z.m t k v xs.length vals)
   (hz:∀b,qf v=some b->¬PZ Z H V b) (h1:∀u∈vals,u.oneCell'=true)
   (h2:∀(i:Nat)(p:PV)(u:Value),(xs.flatMap PV.cells)[i]?=some p->vals[i]?=some u->Rp Z H V w p u):Rp Z H V w (.fr t k xs) v
 |rp (cs:List PV) (b o:Nat) (g:Nat->Value) (hz:¬PZ Z H V b) (hb:b<w.heap.size)
   (h1:∀(i:Nat)(p:PV),cs[i]?=some p->w.cell? ⟨b,o+i,none⟩=some (g i))
   (h2:∀(i:Nat)(p:PV),cs[i]?=some p->Rp Z H V w p (g i)):Rp Z H V w (.rp cs) (.pointer (some ⟨b,o,none⟩))
 |ps (id:Nm) (ver:Nat) (v:Value) (hv:ver<=(H id).ver) (h:(H id).body.isSome=true->(H id).ver=ver->v=V id):Rp Z H V w (.ps id ver) v
 |qs (id:Nm) (off k ver:Nat) (v:Value) (hv:ver<=(H id).ver) (h:(H id).body.isSome=true->(H id).ver=ver->zrj off k (V id) v):Rp Z H V w (.qs id off k ver) v
 |pp (id:Nm) (off ver:Nat) (v:Value) (hv:ver<=(H id).ver) (h:(H id).body.isSome=true->(H id).ver=ver->∃g,qf (V id)=some g/\v=.pointer (some ⟨g,zc5 (V id)+off,none⟩)):Rp Z H V w (.pp id off ver) v
 |fn (f:Fn) (a b:List PV) (va vb:Array Value) (hla:a.length=va.size) (hlb:b.length=vb.size)
   (ha:∀(i:Nat)(p:PV)(v:Value),a[i]?=some p->va[i]?=some v->Rp Z H V w p v) (hb:∀(i:Nat)(p:PV)(v:Value),b[i]?=some p->vb[i]?=some v->Rp Z H V w p v):Rp Z H V w (.fn f a b) (.func f va vb)
theorem Yy{w w':World}{m j:Nat}{t:TypeId}{k n:Nat}{v:Value}{a:List Value}(i:w.ownsRow m t k v n a)(hm:j<=m)(l:∀b,qf v=some b->b<w.heap.size->w'.heap[b]?=w.heap[b]?):w'.ownsRow j t k v n a:=⟨i.1,by
 rcases i.2 with h|⟨g,c,d,e,o,f,r⟩
 ·exact .inl h
 ·exact .inr ⟨g,c,d,e,by omega,by rw[l g (by rw[e];rfl) (wdh.1 f).1];exact f,r⟩⟩
theorem zbs{w:World}{m:Nat}{t:TypeId}{k n:Nat}{v:Value}{a:List Value}(j:w.ownsRow m t k v n a){b:Nat}(c:qf v=some b):m<=b/\b<w.heap.size:=by
 rcases j.2 with⟨e,_⟩|⟨g,d,f,e,h,i,r⟩
 ·rw[e]at c;cases c
 ·rw[e]at c;cases c;exact⟨h,(wdh.1 i).1⟩
theorem Rp.mono{Z B:ZM}{H x:PHeap}{V V':Nm->Value}{w w':World}{p:PV}{v:Value}(h:Rp Z H V w p v)
  (A:∀b,¬PZ Z H V b->b<w.heap.size->¬PZ B x V' b/\b<w'.heap.size/\w'.heap[b]?=w.heap[b]?)
  (hm:B.m<=Z.m)
  (N:∀id,(H id).ver<=(x id).ver)
  (G:∀id d,d<=(H id).ver->(x id).body.isSome=true->(x id).ver=d->(H id).body.isSome=true/\(H id).ver=d/\V' id=V id):Rp B x V' w' p v:=by
 induction h with
 |u v=>exact .u v
 |unk v=>exact .unk v
 |agg cs Q r h n=>exact .agg cs Q r n
 |tup cs Q r h n=>exact .tup cs Q r n
 |nil k a c=>exact .nil k a c
 |sl k R b o c g M y hz l j q n=>
  obtain⟨C,D,E⟩:=A b hz l;exact .sl k R b o c g M y C D (λi p F=>by rw[World.cell?_of_block E];exact j i p F) n
 |fr t k R v z M S hz j q n=>
  exact .fr t k R v z M (Yy S hm λb l L=>(A b (hz b l) L).2.2) (λb l=>(A b (hz b l) (zbs S l).2).1) j n
 |rp cs b o g hz l j q n=>
  obtain⟨C,D,E⟩:=A b hz l;exact .rp cs b o g C D (λi p F=>by rw[World.cell?_of_block E];exact j i p F) n
 |ps id d v e h=>
  refine .ps id d v (wdk e (N id)) λj q=>?_;obtain⟨a,b,c⟩:=G id d e j q;rw[c];exact h a b
 |qs id s k d v e h=>
  refine .qs id s k d v (wdk e (N id)) λj q=>?_;obtain⟨a,b,c⟩:=G id d e j q;rw[c];exact h a b
 |pp id s d v e h=>
  refine .pp id s d v (wdk e (N id)) λj q=>?_;obtain⟨a,b,c⟩:=G id d e j q;rw[c];exact h a b
 |fn f a b T vb I K U l O P=>exact .fn f a b T vb I K O P
theorem Rp.grow{Z:ZM}{H:PHeap}{V:Nm->Value}{w w':World}{p:PV}{v:Value}(h:Rp Z H V w p v)(c:Below w.heap.size w w'):Rp Z H V w' p v:=
 h.mono (λb hz a=>⟨hz,wfq a c.size,c.block b a⟩) (wcq _) (λ_=>wcq _) (λ_ _ _ d e=>⟨d,e,rfl⟩)
def RpL(Z:ZM)(H:PHeap)(V:Nm->Value)(w:World)(cs:List PV)(vs:List Value):Prop:=
 cs.length=vs.length/\∀(i:Nat)(p:PV)(v:Value),cs[i]?=some p->vs[i]?=some v->Rp Z H V w p v
theorem RpL.mono{Z b:ZM}{H a:PHeap}{V V':Nm->Value}{w w':World}{cs:List PV}{vs:List Value}(h:RpL Z H V w cs vs)
  (hm:∀p v,Rp Z H V w p v->Rp b a V' w' p v):RpL b a V' w' cs vs:=⟨h.1,λi p v c d=>hm p v (h.2 i p v c d)⟩
structure Env where
 w:World
 Z:ZM
 hm:Z.m<=w.heap.size
 /-- what waits: the slots of those that called, who share the own heap -/
 G:Nat->PV:=λ_=> .unk
 gv:Nat->Value:=λ_=>undef
def PBody.cs:PBody->List PV
 |.row _ _ _ cs=>cs
 |.box _ cs=>cs
 |.raw _ cs _=>cs
 |.que _ _ _ cs=>cs
def PBody.Is(w:World)(m:Nat)(v:Value)(vs:List Value):PBody->Prop
 |.row t k n _=>w.ownsRow m t k v n vs/\∀u∈vs,u.oneCell'=true
 |.box t _=>∃g,v=.pointer (some ⟨g,0,none⟩)/\m<=g/\w.heap[g]?=some (.cells vs.toArray t (0,0))/\∀u∈vs,u.oneCell'=true
 |.raw p _ φ=>∃g o,v=joq p g/\m<=g/\w.heap[g]?=some o/\φ g o vs
 |.que t k n _=>∃c a b,w.ownsRow m t k c (a+n) (b++vs)/\b.length=a*k/\zrj a k c v/\∀u∈b++vs,u.oneCell'=true
theorem V8{off k:Nat}{V v:Value}(h:zrj off k V v):qf v=qf V:=by
 obtain⟨a,n,c,d,rfl,rfl,_,_,⟨rfl,rfl⟩|⟨b,o,rfl,rfl,_⟩⟩:=h<;>rfl
theorem PBody.Is.lt{w:World}{m:Nat}{v:Value}{vs:List Value}{bd:PBody}(h:bd.Is w m v vs){b:Nat}(a:qf v=some b):m<=b/\b<w.heap.size:=by
 cases bd with
 |row t k n cs=>exact zbs h.1 a
 |box t cs=>obtain⟨g,rfl,c,d,_⟩:=h;cases a;exact⟨c,(wdh.1 d).1⟩
 |raw p cs φ=>obtain⟨g,o,rfl,c,d,_⟩:=h;rw[znw]at a;cases a;exact⟨c,(wdh.1 d).1⟩
 |que t k n cs=>obtain⟨l,i,j,f,_,e,_⟩:=h;exact zbs f ((V8 e).symm.trans a)
theorem PBody.Is.keep{w w':World}{m:Nat}{v:Value}{vs:List Value}{bd:PBody}(h:bd.Is w m v vs)(c:∀b,qf v=some b->w'.heap[b]?=w.heap[b]?):bd.Is w' m v vs:=by
 cases bd with
 |row t k n cs=>exact⟨Yy h.1 (wcq _) λb f _=>c b f,h.2⟩
 |box t cs=>obtain⟨g,rfl,d,e,a⟩:=h;exact⟨g,rfl,d,by rw[c g rfl];exact e,a⟩
 |raw p cs φ=>obtain⟨g,o,rfl,d,e,a⟩:=h;exact⟨g,o,rfl,d,by rw[c g (znw p g)];exact e,a⟩
 |que t k n cs=>obtain⟨s,i,j,r,a,l,q⟩:=h;exact⟨s,i,j,Yy r (wcq _) λb f _=>c b ((V8 l).trans f),a,l,q⟩
structure HRel(P:Program)(W:Env)(H:PHeap)(V:Nm->Value)(w:World):Prop where
 below:Below W.w.heap.size W.w w
 body:∀id bd,(H id).body=some bd->∃vs,bd.Is w W.w.heap.size (V id) vs/\RpL W.Z H V w bd.cs vs
 ghost:∀i,Rp W.Z H V w (W.G i) (W.gv i)
 apart:∀id id' g,(H id).body.isSome=true->(H id').body.isSome=true->qf (V id)=some g->qf (V id')=some g->id=id'
 zlt:∀b,W.Z b->b<w.heap.size
 nz:∀id b,(H id).body.isSome=true->qf (V id)=some b->¬W.Z b
section
variable{P:Program}{W:Env}{H:PHeap}{V:Nm → Value}{w:World}
theorem HRel.row(h:HRel P W H V w)(id:Nm)(t:TypeId)(k n:Nat)(cs:List PV)(d:(H id).body=some (.row t k n cs)):∃a,w.ownsRow W.w.heap.size t k (V id) n a/\RpL W.Z H V w cs a/\∀v∈a,v.oneCell'=true:=by
 obtain⟨e,b,c⟩:=h.body id _ d;exact⟨e,b.1,c,b.2⟩
theorem HRel.box(h:HRel P W H V w)(id:Nm)(t:TypeId)(cs:List PV)(f:(H id).body=some (.box t cs)):∃g arr,V id=.pointer (some ⟨g,0,none⟩)/\W.w.heap.size<=g/\w.heap[g]?=some (.cells arr t (0,0))/\RpL W.Z H V w cs arr.toList/\∀v∈arr.toList,v.oneCell'=true:=by
 obtain⟨i,⟨g,a,b,c,d⟩,e⟩:=h.body id _ f;exact⟨g,i.toArray,a,b,c,e,d⟩
theorem HRel.map(h:HRel P W H V w)(id:Nm)(p:Bool)(cs:List PV)(φ:Nat->Obj->List Value->Prop)(i:(H id).body=some (.raw p cs φ)):∃g o a,V id=joq p g/\W.w.heap.size<=g/\w.heap[g]?=some o/\φ g o a/\RpL W.Z H V w cs a:=by
 obtain⟨a,⟨g,o,b,c,d,e⟩,f⟩:=h.body id _ i;exact⟨g,o,a,b,c,d,e,f⟩
theorem HRel.own_lt(h:HRel P W H V w){id:Nm}{b:Nat}(f:(H id).body.isSome=true)(e:qf (V id)=some b):W.w.heap.size<=b/\b<w.heap.size:=by
 obtain⟨c,a⟩:=wdi.1 f;obtain⟨g,d,_⟩:=h.body id c a;exact d.lt e
theorem HRel.grow{w':World}(h:HRel P W H V w)(a:Below w.heap.size w w'):HRel P W H V w':=by
 refine⟨h.below.trans (a.mono h.below.size),λid e c=>?_,λi=>(h.ghost i).grow a,h.apart,λb hz=>wfq (h.zlt b hz) a.size,h.nz⟩;obtain⟨k,d,f⟩:=h.body id e c;exact⟨k,d.keep λb j=>a.block b (d.lt j).2,f.mono λp v g=>g.grow a⟩
end
structure Rel(P:Program)(W:Env)(n:Nat)(F:PFrame)(H:PHeap)(V:Nm->Value)(a:Act)(w:World):Prop where
 heap:HRel P W H V w
 size:a.tmps.size=n
 defers:a.defers=[]
 slot:∀t,Rp W.Z H V w (F t) (a.tmps.getD t undef)
def ofV:Value->PV
 |.agg a => .agg (a.toList.map .u)
 |v => .u v
def evP(F:PFrame):Operand->PV
 |.tmp t=>F t
 |.const v=>ofV v
 |.global _ => .unk
 |.func f => .fn (.func f) [] []
theorem Rp.ofV (Z : ZM) (H : PHeap) (V : Nm → Value) (w : World) (v : Value) : Rp Z H V w (ofV v) v := by
  cases v <;> first
    | exact .u _
    | (refine .agg _ _ (by simp) fun i p v a c => ?_
       simp only [wcp, wcs] at a
       obtain ⟨q, b, rfl⟩ := a
       rw [Array.getElem?_toList, c] at b
       cases b
       exact .u _)
theorem Rp.eval{P:Program}{Z:ZM}{H:PHeap}{V:Nm->Value}{w:World}{F:PFrame}{a:Act}(x:Operand)(h:∀t,x=.tmp t->Rp Z H V w (F t) (a.tmps.getD t undef)):Rp Z H V w (evP F x) (a.eval x):=by
 cases x with
 |tmp t=>exact h t rfl
 |const v=>exact Rp.ofV Z H V w v
 |global g=>exact .unk _
 |func f=>exact .fn _ [] [] #[] #[] rfl rfl (λi p v h=>by simp at h) (λi p v h=>by simp at h)
theorem Rel.put{P:Program}{W:Env}{n:Nat}{F:PFrame}{H:PHeap}{V:Nm->Value}{a:Act}{w w':World}(h:Rel P W n F H V a w)(b:Below w.heap.size w w')(d:Option Nat)(f:∀t,d=some t->t<n){p:PV}{v:Value}(g:Rp W.Z H V w' p v):Rel P W n (F.put d p) H V (a.put d v) w':=by
 refine⟨h.heap.grow b,?_,?_,λt=>?_⟩
 ·cases d<;>simp[Act.put,h.size]
 ·cases d<;>simp[Act.put,h.defers]
 ·cases d with
  |none=>simpa [Act.put,PFrame.put]using(h.slot t).grow b
  |some d=>
   by_cases e:d=t
   ·subst e;have:=f d rfl;simpa [Act.put,PFrame.put,h.size,this]using g
   ·have c:¬(some d=some t):=by simpa using e
    simp only[PFrame.put,if_neg c];have:=(h.slot t).grow b;simpa [Act.put,wfg e]using this
section
variable{P:Program}{W:Env}{n:Nat}{ops:Array Oper}{md:Region.Mode}{H:PHeap}
def PQ(P:Program)(W:Env)(o:Oper)(F:PFrame)(H:PHeap)(p:PV):Prop:=
 ∀(V:Nm->Value)(a:Act)(w:World),HRel P W H V w->(∀t,Operand.tmp t∈o.op.operands->Rp W.Z H V w (F t) (a.tmps.getD t undef)) ->
  o.wp P a w (λc b=>∃v,c=a.put o.dst v/\Rp W.Z H V b p v/\Below w.heap.size w b) (λ_ _ _=>False)
def V3(ops:Array Oper)(o:Oper)(F:PFrame):Option Bool:=
 match o.guard with
 |none=>some true
 |some (j,a)=>
  match (ops[j]?).bind (·.dst)with
  |none=>none
  |some d=>
   match F d with
   |.u (.bool b)=>some (b == a)
   |.u (.tuple _)=>some false
   |_=>none
theorem zb3{o:Oper}{F:PFrame}{V:Nm->Value}{a:Act}{w:World}{b:Bool}(h:V3 ops o F=some b)(r:∀t,Rp W.Z H V w (F t) (a.tmps.getD t undef)):Region.wanted o (yielded ops a.tmps)=b:=by
 unfold V3 at h;unfold Region.wanted;cases l:o.guard with
 |none=>rw[l]at h;simpa using h
 |some p=>
  obtain⟨j,n⟩:=p;rw[l]at h;simp only at h⊢;cases i:(ops[j]?).bind (·.dst)with
  |none=>rw[i]at h;cases h
  |some d=>
   rw[i]at h;simp only at h;have c:=r d;have m:yielded ops a.tmps j=match a.tmps[d]? with|some (.bool b)=>some b|_=>none:=by
    unfold yielded;rw[i];rfl
   split at h
   ·rename_i k g;rw[g]at c;have:a.tmps.getD d undef=.bool k:=by generalize a.tmps.getD d undef=q at c;cases c;rfl
    have f:a.tmps[d]?=some (.bool k):=by
     rw[wd0]at this;cases e:a.tmps[d]? with
     |none=>rw[e]at this;simp[undef]at this
     |some q=>rw[e]at this;simpa using this
    rw[m,f];simpa using h
   ·rename_i s g;rw[g]at c;have:a.tmps.getD d undef=.tuple s:=by generalize a.tmps.getD d undef=q at c;cases c;rfl
    have f:yielded ops a.tmps j=none:=by
     rw[m];rw[wd0]at this;cases e:a.tmps[d]? with
     |none=>rfl
     |some q=>rw[e]at this;simp at this;subst this;rfl
    rw[f];simpa using h
   ·cases h
def Y4(n:Nat)(o:Oper):Prop:=∀t,o.dst=some t->t<n
theorem Rel.drawn{F:PFrame}{V:Nm->Value}{a:Act}{w:World}(h:Rel P W n F H V a w):Rel P W n F H V a { w with drawn:=w.drawn+1 }:=by
 have b:Below w.heap.size w { w with drawn:=w.drawn+1 }:=⟨rfl,rfl,rfl,wcq _,λ_ _=>rfl⟩
 exact⟨h.heap.grow b,h.size,h.defers,λt=>(h.slot t).grow b⟩
end
def _root_.Go.Sem.val{α:Type}(P:Program):Sem α->Option α
 |.pure a=>some a
 |.program k=>(k P).val P
 |.mark _ k=>k.val P
 |_=>none
theorem zd4{α:Type}{P:Program}{s:Sem α}{a:α}(h:s.val P=some a)(w:World):s.run P w=.ok a w:=by
 induction s with
 |pure b=>simp only[Sem.val,wdn]at h;subst h;rfl
 |program k c=>simp only[Sem.val]at h;simp only[Sem.run];exact c P h
 |mark m k c=>simp only[Sem.val]at h;simp only[Sem.run];exact c h
 |_=>simp[Sem.val]at h
theorem qu{α β:Type}{P:Program}(s:Sem α)(f:α->Sem β):(s >>= f).val P=(s.val P).bind λa=>(f a).val P:=by
 show(s.bind f).val P=_;induction s with
 |pure b=>rfl
 |program k c=>simp only[Sem.bind,Sem.val];exact c P
 |mark m k c=>simp only[Sem.bind,Sem.val];exact c
 |_=>simp[Sem.bind,Sem.val]
theorem zux{α β:Type}{P:Program}(s:Sem α)(f:α->β):(f <$> s).val P=(s.val P).map f:=by
 rw[<- bind_pure_comp,qu];cases s.val P<;>rfl
theorem q6{α:Type}{P:Program}(a:α):(Pure.pure a:Sem α).val P=some a:=rfl
def esz(P:Program)(t:TypeId):Option Nat:=match P.underlying t with|some (.slice e)=>(P.info? e).map (·.size)|_=>none
def arr(P:Program)(t:TypeId):Option (Nat×Nat):=match P.underlying t with|some (.array n e)=>(P.info? e).map λi=>(n,i.size)|_=>none
def zpm:TypeDesc->Bool|.struct _|.array _ _=>true|_=>false
def asz(P:Program)(t:TypeId):Option (Bool×Nat):=match P.underlying t with|some d=>(P.info? t).map λi=>(zpm d,i.size)|none=>none
def fof(P:Program)(s:TypeId)(f:Nat):Option (Nat×TypeId):=match P.underlying s with|some (.struct a)=>(a[f]?).map λx=>(x.offset,x.type)|_=>none
def jks(P:Program)(t:TypeId):Option TypeId:=match P.underlying t with|some (.array _ e)=>some e|_=>none
theorem z2d{P:Program}{t:TypeId}{d:TypeDesc}(h:P.underlying t=some d)(w:World):(isAgg t).run P w=.ok (zpm d) w:=by
 unfold isAgg;rw[Sem.run_bind,run_underlying h w];cases d<;>simp[zpm]
theorem zjv{P:Program}{t:TypeId}{g:Bool}{k:Nat}(h:asz P t=some (g,k))(w:World):(isAgg t).run P w=.ok g w/\(sizeOf t).run P w=.ok k w:=by
 unfold asz at h;cases b:P.underlying t with
 |none=>rw[b]at h;cases h
 |some d=>
  rw[b]at h;simp only at h;cases a:P.info? t with
  |none=>rw[a]at h;cases h
  |some i=>
   rw[a]at h;simp only[wc3,wdn,wfm]at h;obtain⟨c,e⟩:=h;exact⟨by rw[z2d b w,c],by simp[sizeOf,typeInfo,a,e]⟩
theorem ze1{P:Program}{t:TypeId}{k:Nat}(h:esz P t=some k):∃e i,P.underlying t=some (.slice e)/\P.info? e=some i/\i.size=k:=by
 unfold esz at h;split at h
 ·rename_i e b;cases a:P.info? e with
  |none=>rw[a]at h;cases h
  |some i=>rw[a]at h;exact⟨e,i,b,a,by simpa using h⟩
 ·cases h
theorem zxu{P:Program}{t:TypeId}{n k:Nat}(h:arr P t=some (n,k)):∃e i,P.underlying t=some (.array n e)/\P.info? e=some i/\i.size=k:=by
 unfold arr at h;split at h
 ·rename_i m e c;cases a:P.info? e with
  |none=>rw[a]at h;cases h
  |some i=>
   rw[a]at h;simp only[wc3,wdn,wfm]at h;obtain⟨rfl,b⟩:=h;exact⟨e,i,c,a,b⟩
 ·cases h
section
variable{P:Program}{W:Env}{H:PHeap}{F:PFrame}
theorem waf{o:Oper}{p:PV}(h:∀(V:Nm->Value)(a:Act)(w:World),HRel P W H V w->(∀x∈o.op.operands,Rp W.Z H V w (evP F x) (a.eval x))->∃v,(execOp a.eval o).run P w=.ok (.value v) w/\Rp W.Z H V w p v):PQ P W o F H p:=by
 intro V a w c d;obtain⟨v,f,b⟩:=h V a w c λx g=>Rp.eval (P:=P) x λt e=>d t (by rw[<- e];exact g);unfold Oper.wp;rw[f];exact⟨v,rfl,b,Below.refl _ _⟩
def qg(H:PHeap)(id:Nm)(ver:Nat):Option (List PV):=
 match (H id).body with
 |some (.row _ _ _ cs)=>if(H id).ver=ver then some cs else none
 |some (.box _ cs)=>if(H id).ver=ver then some cs else none
 |some (.que _ _ _ cs)=>if(H id).ver=ver then some cs else none
 |_=>none
def Jf(H:PHeap)(id:Nm)(ver:Nat):Option (TypeId×Nat×Nat×List PV):=
 match (H id).body with
 |some (.row t k n cs)=>if(H id).ver=ver then some (t,k,n,cs)else none
 |_=>none
theorem zq{id:Nm}{ver:Nat}{t k n cs}(h:Jf H id ver=some (t,k,n,cs)):(H id).body=some (.row t k n cs)/\(H id).ver=ver:=by
 unfold Jf at h;split at h
 ·rename_i f d e a b;split at h
  ·rename_i c;cases h;exact⟨b,c⟩
  ·cases h
 ·cases h
theorem zjz{id:Nm}{ver:Nat}{cs:List PV}(a:qg H id ver=some cs):(H id).ver=ver/\∃b,(H id).body=some b/\b.cs=cs/\∀p cs φ,b ≠ .raw p cs φ:=by
 unfold qg at a;split at a<;>first
  |(cases a;done)
  |(rename_i c;split at a<;>cases a;rename_i d;exact⟨d,_,c,rfl,λ_ _ _ h=>by cases h⟩)
theorem Jb{id:Nm}{ver:Nat}{cs:List PV}(c:qg H id ver=some cs):(H id).body.isSome=true/\(H id).ver=ver:=by
 obtain⟨a,d,b,_⟩:=zjz c;exact⟨by rw[b];rfl,a⟩
theorem Jj(b o n:Nat):(⟨b,o,none⟩:Addr).add n=⟨b,o+n,none⟩:=by unfold Addr.add;split<;>simp_all
theorem zn0{w:World}{m:Nat}{t:TypeId}{k n:Nat}{v:Value}{vs:List Value}(h:w.ownsRow m t k v n vs){g:Nat}(a:qf v=some g)(i:Nat)(u:Value)(f:vs[i]?=some u):w.cell? ⟨g,i,none⟩=some u:=by
 have b:v.ownBlock=some g:=by
  rcases h.2 with⟨e,_⟩|⟨j,c,d,e,_⟩
  ·rw[e]at a;cases a
  ·rw[e]at a⊢;exact a
 have:=h.cells b i u f;rwa [Jj,wdo]at this
theorem PBody.Is.off0{w:World}{m:Nat}{v:Value}{vs:List Value}{bd:PBody}(h:bd.Is w m v vs)(d:∀t k n cs,bd ≠ .que t k n cs):zc5 v=0:=by
 cases bd with
 |row t k n cs=>rcases h.1.2 with⟨e,_⟩|⟨c,a,b,e,_⟩<;>rw[e]<;>rfl
 |box t cs=>obtain⟨c,rfl,_⟩:=h;rfl
 |raw p cs φ=>obtain⟨g,o,rfl,_⟩:=h;cases p<;>rfl
 |que t k n cs=>exact absurd rfl (d _ _ _ _)
theorem PBody.Is.cell{w:World}{m:Nat}{v:Value}{vs:List Value}{bd:PBody}(h:bd.Is w m v vs)(I:∀p cs φ,bd ≠ .raw p cs φ){g:Nat}(f:qf v=some g)(i:Nat)(u:Value)(j:vs[i]?=some u):w.cell? ⟨g,zc5 v+i,none⟩=some u:=by
 cases bd with
 |raw p cs φ=>exact absurd rfl (I _ _ _)
 |row t k n cs=>
  rw[PBody.Is.off0 (bd :=.row t k n cs) h (λ_ _ _ _ h=>by cases h),wdo];exact zn0 h.1 f i u j
 |box t cs=>
  obtain⟨q,rfl,_,G,_⟩:=h;cases f;have H:i<vs.toArray.size:=by simpa using(wcg.1 j).1
  show w.cell? ⟨q,0+i,none⟩=_;rw[wdo,cell_of_row w q i _ t (0,0) G];simpa using j
 |que t k n cs=>
  obtain⟨P,x,y,r,B,A,_⟩:=h;have z:=V8 A;rw[f]at z;have E:=zn0 r z.symm (y.length+i) u (by rw[wct (by omega),weq];exact j);obtain⟨a,O,c,L,rfl,rfl,M,N,F⟩:=A;have K:=(wcg.1 j).1;have d:=r.1;rcases F with⟨rfl,rfl⟩|⟨b,o,rfl,rfl,l⟩
  ·cases f
  ·have s:o=x*k:=by
    rcases l with l|l
    ·exact l
    ·exfalso;rcases r.2 with⟨e,_⟩|⟨q,C,D,e,_⟩
     ·cases e
     ·cases e;have:n=0:=by omega
      subst this;simp only[wcu,B]at d;simp only[wd5]at d;omega
   cases f;show w.cell? ⟨b,o+i,none⟩=_;rw[s,<- B];exact E
theorem z68{V:Nm->Value}{w:World}(n:HRel P W H V w){id:Nm}{ver g:Nat}{cs:List PV}(m:qg H id ver=some cs)(l:qf (V id)=some g):
  (H id).body.isSome=true/\(H id).ver=ver/\∀(i:Nat)(p:PV),cs[i]?=some p->∃v,w.cell? ⟨g,zc5 (V id)+i,none⟩=some v/\Rp W.Z H V w p v:=by
 obtain⟨h,f,b,rfl,j⟩:=zjz m;obtain⟨e,k,c⟩:=n.body id f b;refine⟨by rw[b];rfl,h,λi p d=>?_⟩;have a:i<e.length:=by rw[<- c.1];exact(wcg.1 d).1
 exact⟨e[i],k.cell j l i _ (wcf a),c.2 i p _ d (wcf a)⟩
def Y2(ag:Bool)(k:Nat)(cs:List PV):Option PV:=
 if ag then(if k<=cs.length then some (.agg (cs.take k))else none)else cs[0]?
theorem z0p{V:Nm->Value}{w:World}{t:TypeId}{ag:Bool}{k:Nat}(A:asz P t=some (ag,k)){cs:List PV}{b o:Nat}(s:∀(i:Nat)(p:PV),cs[i]?=some p->∃v,w.cell? ⟨b,o+i,none⟩=some v/\Rp W.Z H V w p v){q:PV}(c:Y2 ag k cs=some q):
  ∃v,(loadVar t ⟨b,o,none⟩).run P w=.ok v w/\Rp W.Z H V w q v:=by
 obtain⟨n,u⟩:=zjv A w;unfold Y2 at c;cases ag with
 |false=>
  simp only[wdp,if_false]at c;obtain⟨v,d,g⟩:=s 0 q c;refine⟨v,?_,g⟩;rw[wd5]at d;unfold loadVar;simp[Sem.run_bind,n,d]
 |true=>
  simp only[if_true]at c;split at c
  ·rename_i B;cases c;have a:∀i,i<k->∃v,w.cell? ⟨b,o+i,none⟩=some v/\∀p,cs[i]?=some p->Rp W.Z H V w p v:=λi e=>by
    obtain⟨v,d,g⟩:=s i cs[i] (wcf (by omega));exact⟨v,d,λp h=>by rw[wcf (by omega)]at h;cases h;exact g⟩
   have m:∃f:Nat->Value,∀i,i<k->w.cell? ⟨b,o+i,none⟩=some (f i)/\∀p,cs[i]?=some p->Rp W.Z H V w p (f i):=by
    refine⟨λi=>((w.cell? ⟨b,o+i,none⟩).getD undef),λi e=>?_⟩;obtain⟨v,d,g⟩:=a i e;simp only[d,wda];exact⟨trivial,g⟩
   obtain⟨f,m⟩:=m;have z:=run_loadCells (P:=P) w ⟨b,o,none⟩ k f (λj y=>by rw[Jj];exact(m j y).1);refine⟨.agg ((List.range k).map f).toArray,by unfold loadVar;simp[Sem.run_bind,n,u,z],.agg _ _ (by simp;omega) λi p v l r=>?_⟩;rw[wd7]at l;split at l
   ·rename_i e;have x:v=f i:=by
     simp[e]at r;exact r.symm
    rw[x];exact(m i e).2 p l
   ·cases l
  ·cases c
def za0(P:Program)(H:PHeap)(t:TypeId)(x:PV):Option PV:=
 match asz P t with
 |none=>none
 |some (c,k)=>
  match x with
  |.rp cs=>Y2 c k cs
  |.pp id a b=>(qg H id b).bind λcs=>Y2 c k (cs.drop a)
  |_=>none
theorem zrs{V:Nm->Value}{w:World}(C:HRel P W H V w){t:TypeId}{y q:PV}{v:Value}(r:Rp W.Z H V w y v)(a:za0 P H t y=some q):∃u,(Instr.loadAt t v).run P w=.ok u w/\Rp W.Z H V w q u:=by
 unfold za0 at a;cases f:asz P t with
 |none=>rw[f]at a;cases a
 |some s=>
  obtain⟨D,k⟩:=s;rw[f]at a;simp only at a;split at a
  ·rename_i cs;cases r with
   |rp _ b o g hz E x z=>
    obtain⟨u,m,l⟩:=z0p f (λi p d=>⟨g i,x i p d,z i p d⟩) a;exact⟨u,by simp[Instr.loadAt,Instr.sureAddr,m],l⟩
  ·rename_i id e n;cases j:qg H id n with
   |none=>rw[j]at a;cases a
   |some cs=>
    rw[j]at a;simp only[wdr]at a;cases r with
    |pp _ _ _ _ F h=>
     have c:=Jb j;obtain⟨g,B,rfl⟩:=h c.1 c.2;obtain⟨_,_,A⟩:=z68 C j B;obtain⟨u,m,l⟩:=z0p (P:=P) (W:=W) (H:=H) (V:=V) (w:=w) (b:=g) (o:=zc5 (V id)+e) f (cs:=cs.drop e) (λi p d=>by
      rw[wdv]at d;rw[we0];exact A _ p d) a
     exact⟨u,by simp[Instr.loadAt,Instr.sureAddr,m],l⟩
  ·cases a
def fieldAddrP(P:Program)(H:PHeap)(s:TypeId)(f:Nat)(x:PV):Option PV:=
 match fof P s f with
 |none=>none
 |some (a,t)=>
  match asz P t with
  |some (_,k)=>if k=0 then none else
   match x with
   |.rp cs=>some (.rp (cs.drop a))
   |.pp id o b=>(qg H id b).map λ_=> .pp id (o+a) b
   |_=>none
  |none=>none
theorem z86{s:TypeId}{f off:Nat}{t:TypeId}(h:fof P s f=some (off,t)):∃a x,P.underlying s=some (.struct a)/\a[f]?=some x/\x.offset=off/\x.type=t:=by
 unfold fof at h;split at h
 ·rename_i a c;cases b:a[f]? with
  |none=>rw[b]at h;cases h
  |some x=>
   rw[b]at h;simp only[wc3,wdn,wfm]at h;exact⟨a,x,c,b,h.1,h.2⟩
 ·cases h
theorem wa3{V:Nm->Value}{w:World}{cs:List PV}{b o:Nat}(h:Rp W.Z H V w (.rp cs) (.pointer (some ⟨b,o,none⟩)))(d:Nat):Rp W.Z H V w (.rp (cs.drop d)) (.pointer (some ⟨b,o+d,none⟩)):=by
 cases h with
 |rp _ _ _ g hz f c e=>
  exact .rp _ b (o+d) (λi=>g (d+i)) hz f (λi p a=>by rw[wdv]at a;rw[we0];exact c _ p a) (λi p a=>by rw[wdv]at a;exact e _ p a)
theorem zu1{V:Nm->Value}{w:World}{s:TypeId}{f:Nat}{y q:PV}{v:Value}(z:Rp W.Z H V w y v)(a:fieldAddrP P H s f y=some q):
  ∃u,(Instr.fieldAt s v f).run P w=.ok u w/\Rp W.Z H V w q u:=by
 unfold fieldAddrP at a;cases j:fof P s f with
 |none=>rw[j]at a;cases a
 |some G=>
  obtain⟨F,t⟩:=G;rw[j]at a;simp only at a;obtain⟨K,x,E,l,rfl,rfl⟩:=z86 j;cases i:asz P x.type with
  |none=>rw[i]at a;cases a
  |some A=>
   obtain⟨I,k⟩:=A;rw[i]at a;simp only at a;split at a
   ·cases a
   ·rename_i D;have n:=(zjv i w).2;have c:∀b o,(Instr.fieldAt s (.pointer (some ⟨b,o,none⟩)) f).run P w=.ok (.pointer (some ⟨b,o+x.offset,none⟩)) w:=λb o=>by
     simp[Instr.fieldAt,run_underlying E,l,Instr.sureAddr,fieldPlace,n,D,Jj]
    split at a
    ·rename_i cs;cases a;cases z with
     |rp _ b o g hz B d e=>exact⟨_,c b o,wa3 (.rp cs b o g hz B d e) _⟩
    ·rename_i id o r;cases m:qg H id r with
     |none=>rw[m]at a;cases a
     |some cs=>
      rw[m]at a;cases a;obtain⟨d,e⟩:=Jb m;cases z with
      |pp _ _ _ _ p h=>
       obtain⟨g,C,rfl⟩:=h d e;refine⟨_,c g (zc5 (V id)+o),.pp _ _ _ _ p λ_ _=>⟨g,C,?_⟩⟩;rw[we0]
    ·cases a
end
section
variable{P:Program}{W:Env}{H:PHeap}{F:PFrame}
def PBody.kn:PBody->Option (Nat×Nat)
 |.row _ k n _=>some (k,n)
 |.que _ k n _=>some (k,n)
 |_=>none
def zf9(H:PHeap)(id:Nm)(ver:Nat):Option (Nat×Nat):=match (H id).body with
 |some a=>if(H id).ver=ver then a.kn else none
 |none=>none
theorem z66{H:PHeap}{id:Nm}{ver:Nat}{q:Nat×Nat}(h:zf9 H id ver=some q):(H id).ver=ver/\∃a,(H id).body=some a/\a.kn=some q:=by
 unfold zf9 at h;split at h
 ·rename_i a b;split at h
  ·exact⟨by assumption,a,b,h⟩
  ·cases h
 ·cases h
theorem PBody.Is.shape{w:World}{m:Nat}{v:Value}{vs:List Value}{bd:PBody}{q:Nat×Nat}(h:bd.Is w m v vs)(j:bd.kn=some q):∃a c,v=.slice a q.2 c/\(0<q.2->∃b,a=some ⟨b,zc5 v,none⟩):=by
 cases bd with
 |row t k n cs=>
  cases j;rcases h.1.2 with⟨e,rfl⟩|⟨l,d,f,e,_⟩
  ·exact⟨none,0,e,λh=>absurd h (Nat.lt_irrefl _)⟩
  ·exact⟨_,d,e,λ_=>⟨l,by rw[e];rfl⟩⟩
 |que t k n cs=>
  cases j;obtain⟨E,i,C,s,D,⟨a,B,c,u,h0,rfl,A,z,x⟩,_⟩:=h;have r:B=i+n:=by
   rcases s.2 with⟨e,y⟩|⟨l,d,f,e,_⟩
   ·rw[e]at h0;cases h0;omega
   ·rw[e]at h0;cases h0;rfl
  refine⟨u,c-i,by rw[r,weq],λg=>?_⟩;rcases x with⟨rfl,rfl⟩|⟨b,o,rfl,rfl,_⟩
  ·rcases s.2 with⟨e,y⟩|⟨l,d,f,e,_⟩
   ·simp only at g;omega
   ·rw[e]at h0;cases h0
  ·exact⟨b,rfl⟩
 |box t cs=>cases j
 |raw p cs φ=>cases j
theorem PBody.Is.one{w:World}{m:Nat}{v:Value}{vs:List Value}{bd:PBody}(h:bd.Is w m v vs):v.oneCell'=true:=by
 cases bd with
 |row t k n cs=>rcases h.1.2 with⟨e,_⟩|⟨l,b,d,e,_⟩<;>rw[e]<;>rfl
 |box t cs=>obtain⟨g,rfl,_⟩:=h;rfl
 |raw p cs φ=>obtain⟨g,o,rfl,_⟩:=h;cases p<;>rfl
 |que t k n cs=>obtain⟨q,f,i,_,_,⟨a,n,c,j,_,rfl,_⟩,_⟩:=h;rfl
def Jm(H:PHeap):PV->Bool
 |.u v=>v.oneCell'
 |.sl _ _|.fr _ _ _|.rp _|.fn _ _ _=>true
 |.ps id a=>(H id).body.isSome && Nat.beq (H id).ver a
 |.qs id _ _ a=>(Jf H id a).isSome
 |.pp id _ a=>(qg H id a).isSome
 |_=>false
def okC(H:PHeap):PV->Bool
 |.agg cs=>cs.all (Jm H)
 |p=>Jm H p
theorem Rp.leaf{V:Nm->Value}{w:World}(B:HRel P W H V w){p:PV}{v:Value}(h:Rp W.Z H V w p v)(b:Jm H p=true):v.oneCell'=true:=by
 cases h with
 |u v=>exact b
 |nil k a c=>rfl
 |sl=>rfl
 |fr t k G v r D A=>rcases A.2 with⟨e,_⟩|⟨g,x,y,e,_⟩<;>rw[e]<;>rfl
 |rp=>rfl
 |fn=>rfl
 |ps id d v o h=>
  simp only[Jm,wcl]at b;rw[h b.1 (wcj b.2)];obtain⟨s,j⟩:=wdi.1 b.1;obtain⟨F,i,_⟩:=B.body id s j;exact i.one
 |qs id m E d v o h=>
  simp only[Jm]at b;cases f:Jf H id d with
  |none=>rw[f]at b;cases b
  |some q=>
   obtain⟨t,k,n,cs⟩:=q;obtain⟨j,l⟩:=zq f;obtain⟨a,n,c,C,_,e,_⟩:=h (by rw[j];rfl) l;rw[e];rfl
 |pp id m d v o h=>
  simp only[Jm]at b;cases f:qg H id d with
  |none=>rw[f]at b;cases b
  |some q=>
   obtain⟨i,z⟩:=Jb f;obtain⟨g,_,rfl⟩:=h i z;rfl
 |_=>simp[Jm]at b
theorem Rp.cells{V:Nm->Value}{w:World}(D:HRel P W H V w){p:PV}{v:Value}(h:Rp W.Z H V w p v)(r:okC H p=true):RpL W.Z H V w p.cells v.cells.toList/\∀u∈v.cells.toList,u.oneCell'=true:=by
 cases h with
 |agg cs M Q n=>
  simp only[okC,wdx]at r;refine⟨⟨by simpa [PV.cells,Value.cells]using Q,λi p v d m=>n i p v d (by simpa [Value.cells]using m)⟩,λu y=>?_⟩;simp only[Value.cells]at y;obtain⟨i,O,rfl⟩:=wew y;have F:i<M.size:=by simpa using O
  have B:i<cs.length:=by omega
  have:=n i cs[i] M[i] (wcf B) (wdj F);have:=this.leaf D (r _ (wcm B));simpa using this
 |tup=>simp[okC,Jm]at r
 |unk=>simp[okC,Jm]at r
 |u v=>
  have d:v.oneCell'=true:=r;have n:v.cells = #[v]:=by cases v<;>first|rfl|simp[Value.oneCell']at d
  rw[n];exact⟨⟨rfl,λi p u d m=>by
   cases i with
   |zero=>simp[PV.cells]at d m;subst d m;exact .u _
   |succ i=>simp[PV.cells]at d⟩,by simpa using d⟩
 |nil k a c=>
  exact⟨⟨rfl,λi p u d m=>by
   cases i with
   |zero=>simp[PV.cells,Value.cells]at d m;subst d m;exact .nil _ _ _
   |succ i=>simp[PV.cells]at d⟩,by simp[Value.cells,Value.oneCell']⟩
 |sl k E b o c g y C hz A d m=>
  exact⟨⟨rfl,λi p u e j=>by
   cases i with
   |zero=>simp[PV.cells,Value.cells]at e j;subst e j;exact .sl k E b o c g y C hz A d m
   |succ i=>simp[PV.cells]at e⟩,by simp[Value.cells,Value.oneCell']⟩
 |fr t k E v x y K hz d m=>
  have z:v.oneCell'=true:=Rp.leaf D (.fr t k E v x y K hz d m) r;have n:v.cells = #[v]:=by cases v<;>first|rfl|simp[Value.oneCell']at z
  rw[n];exact⟨⟨rfl,λi p u e j=>by
   cases i with
   |zero=>simp[PV.cells]at e j;subst e j;exact .fr t k E _ x y K hz d m
   |succ i=>simp[PV.cells]at e⟩,by simpa using z⟩
 |rp cs b o g hz A d m=>
  exact⟨⟨rfl,λi p u e j=>by
   cases i with
   |zero=>simp[PV.cells,Value.cells]at e j;subst e j;exact .rp cs b o g hz A d m
   |succ i=>simp[PV.cells]at e⟩,by simp[Value.cells,Value.oneCell']⟩
 |fn f a b R vb G I N A=>
  exact⟨⟨rfl,λi p u e j=>by
   cases i with
   |zero=>simp[PV.cells,Value.cells]at e j;subst e j;exact .fn f a b R vb G I N A
   |succ i=>simp[PV.cells]at e⟩,by simp[Value.cells,Value.oneCell']⟩
 |ps id l v s h=>
  have d:v.oneCell'=true:=Rp.leaf D (.ps id l v s h) r;have n:v.cells = #[v]:=by cases v<;>first|rfl|simp[Value.oneCell']at d
  rw[n];exact⟨⟨rfl,λi p u e j=>by
   cases i with
   |zero=>simp[PV.cells]at e j;subst e j;exact .ps id l _ s h
   |succ i=>simp[PV.cells]at e⟩,by simpa using d⟩
 |qs id q L l v s h=>
  have d:v.oneCell'=true:=Rp.leaf D (.qs id q L l v s h) r;have n:v.cells = #[v]:=by cases v<;>first|rfl|simp[Value.oneCell']at d
  rw[n];exact⟨⟨rfl,λi p u e j=>by
   cases i with
   |zero=>simp[PV.cells]at e j;subst e j;exact .qs id q L l _ s h
   |succ i=>simp[PV.cells]at e⟩,by simpa using d⟩
 |pp id q l v s h=>
  have d:v.oneCell'=true:=Rp.leaf D (.pp id q l v s h) r;have n:v.cells = #[v]:=by cases v<;>first|rfl|simp[Value.oneCell']at d
  rw[n];exact⟨⟨rfl,λi p u e j=>by
   cases i with
   |zero=>simp[PV.cells]at e j;subst e j;exact .pp id q l _ s h
   |succ i=>simp[PV.cells]at e⟩,by simpa using d⟩
def z01:PV->Option Value
 |.u v=>some v
 |_=>none
def PV.val2:PV->Option Value
 |.u v=>some v
 |.agg cs=>(cs.mapM z01).map λl=> .agg l.toArray
 |_=>none
theorem zv9:∀{cs:List PV}{l:List Value},cs.mapM z01=some l->cs=l.map .u
 |[],l,h=>by simp at h;subst h;rfl
 |c::cs,l,h=>by
  simp only[we6,bind_pure_comp,Option.bind_eq_bind]at h;cases a:z01 c with
  |none=>rw[a]at h;cases h
  |some v=>
   cases b:cs.mapM z01 with
   |none=>rw[a,b]at h;cases h
   |some m=>
    rw[a,b]at h;simp at h;subst h;have:c=.u v:=by cases c<;>simp[z01]at a;subst a;rfl
    rw[this,zv9 b];rfl
theorem Rp.val2{V:Nm->Value}{w:World}{p:PV}{v u:Value}(h:Rp W.Z H V w p v)(b:p.val2=some u):v=u:=by
 cases h with
 |u v=>simpa [PV.val2]using b
 |agg cs c n m=>
  simp only[PV.val2,wcs]at b;obtain⟨l,f,rfl⟩:=b;have e:=zv9 f;subst e;congr 1;apply Array.ext';apply wee;intro i;simp only[wcv]at n;by_cases d:i<l.length
  ·have j:(l.map PV.u)[i]?=some (.u l[i]):=by simp[d]
   have a:i<c.size:=by omega
   have g:=m i _ c[i] j (wdj a);have k:c[i]=l[i]:=by generalize c[i]=q at g;cases g;rfl
   simp[d,a,k]
  ·rw[wdt (by simp;omega),wdt (by simpa using d)]
 |_=>simp[PV.val2]at b
def zi(P:Program)(c:BinOp)(t:TypeId)(x y:Operand)(p q:PV):Option PV:=
 match p.val2,q.val2 with
 |some a,some b=>((do eqGuard c t x y a b;binOp c t a b:Sem Value).val P).map ofV
 |_,_=>none
def unP(P:Program)(b:UnOp)(p:PV):Option PV:=
 match p.val2 with
 |some a=>((Op.unary b a).val P).map ofV
 |none=>none
def jb9(P:Program)(s d:TypeId)(p:PV):Option PV:=
 match p.val2 with
 |some a=>((convert s d a).val P).map ofV
 |none=>none
def z3p(P:Program)(b:Builtin)(ts:Array TypeId)(ty:TypeId)(ps:List PV):Option PV:=
 match ps.mapM PV.val2 with
 |some a=>
  match b with
  |.min=>((Builtin.min_ ts ty a.toArray).val P).map ofV
  |.max=>((Builtin.max_ ts ty a.toArray).val P).map ofV
  |_=>none
 |none=>none
def zak(P:Program)(t:TypeId):Bool:=match P.underlying t with|some (.slice _)=>true|_=>false
def zc3(P:Program)(t:TypeId):Bool:=match P.underlying t with|some .string=>true|_=>false
def lenP(P:Program)(H:PHeap)(t:TypeId)(p:PV):Option PV:=
 match p with
 |.sl _ b=>if zak P t then some (.u (.int .i64 b.length))else none
 |.ps id a=>if zak P t then(zf9 H id a).map λq=> .u (.int .i64 q.2)else none
 |.u (.slice _ n _)=>if zak P t then some (.u (.int .i64 n))else none
 |.u (.string s)=>if zc3 P t then some (.u (.int .i64 s.size))else none
 |_=>none
theorem zb5{t:TypeId}(b:zak P t=true)(ty:TypeId)(a:Option Addr)(n c:Nat)(w:World):(Builtin.len_ #[t] ty #[.slice a n c]).run P w=.ok (.int .i64 n) w:=by
 unfold zak at b;split at b
 ·rename_i e d;simp[Builtin.len_,run_underlying d,goInt]
 ·cases b
theorem z9b{t:TypeId}(a:zc3 P t=true)(ty:TypeId)(s:ByteArray)(w:World):(Builtin.len_ #[t] ty #[.string s]).run P w=.ok (.int .i64 s.size) w:=by
 unfold zc3 at a;split at a
 ·rename_i b;simp[Builtin.len_,run_underlying b,goInt]
 ·cases a
theorem HRel.rs_shape{V:Nm->Value}{w:World}(k:HRel P W H V w){id:Nm}{ver:Nat}{q}(h:zf9 H id ver=some q){v:Value}(l:Rp W.Z H V w (.ps id ver) v):v=V id/\∃a c,v=.slice a q.2 c/\(0<q.2->∃b,a=some ⟨b,zc5 v,none⟩):=by
 obtain⟨d,f,e,j⟩:=z66 h;cases l with
 |ps _ _ _ m i=>
  rw[i (by rw[e];rfl) d];obtain⟨n,g,_⟩:=k.body id f e;exact⟨rfl,g.shape j⟩
theorem Rp.sl_shape{V:Nm->Value}{w:World}{k:Nat}{xs:List PV}{v:Value}(h:Rp W.Z H V w (.sl k xs) v):∃a c,v=.slice a xs.length c/\xs.length<=c\/xs=[]/\v=.slice a 0 c:=by
 cases h with
 |nil k a c=>exact⟨a,c,.inr ⟨rfl,rfl⟩⟩
 |sl k xs b o c g e d=>exact⟨_,c,.inl ⟨rfl,d⟩⟩
theorem jku{V:Nm->Value}{w:World}(h:HRel P W H V w){t ty:TypeId}{y q:PV}{v:Value}(e:Rp W.Z H V w y v)(b:lenP P H t y=some q):∃u,(Builtin.len_ #[t] ty #[v]).run P w=.ok u w/\Rp W.Z H V w q u:=by
 unfold lenP at b;split at b
 ·split at b
  ·rename_i i d;cases b;obtain⟨a,c,⟨rfl,_⟩|⟨rfl,rfl⟩⟩:=e.sl_shape
   ·exact⟨_,zb5 d ty _ _ _ _,.u _⟩
   ·exact⟨_,zb5 d ty _ _ _ _,.u _⟩
  ·cases b
 ·split at b
  ·rename_i id g d;cases f:zf9 H id g with
   |none=>rw[f]at b;cases b
   |some r=>
    rw[f]at b;cases b;obtain⟨_,a,c,rfl,_⟩:=h.rs_shape f e;exact⟨_,zb5 d ty _ _ _ _,.u _⟩
  ·cases b
 ·split at b
  ·rename_i d;cases b;cases e;exact⟨_,zb5 d ty _ _ _ _,.u _⟩
  ·cases b
 ·split at b
  ·rename_i d;cases b;cases e;exact⟨_,z9b d ty _ _,.u _⟩
  ·cases b
 ·cases b
theorem zuw{k:Nat}:∀{xs:List PV},(∀y∈xs,y.cells.length=k)->∀(i j:Nat)(y:PV),xs[i]?=some y->j<k->(xs.flatMap PV.cells)[i*k+j]?=y.cells[j]?
 |[],_,i,j,y,h,_=>by simp at h
 |x::xs,a,0,j,y,h,c=>by
  simp at h;subst h;have b:=a x (by simp);rw[wdd,Nat.zero_mul,wdo,wcr (by omega)]
 |x::xs,a,i+1,j,y,h,c=>by
  have b:=a x (by simp);simp only[we3]at h;rw[wdd,wct (by rw[b,wd6];omega),b,show(i+1)*k+j-k=i*k+j by rw[wd6];omega];exact zuw (λy d=>a y (by simp[d])) i j y h c
def indexAddrP(P:Program)(H:PHeap)(t:TypeId)(p i:PV):Option PV:=
 match i with
 |.u (.int _ z)=>
  if 0<=z then
   match p with
   |.sl k c=>if esz P t=some k then(c[z.toNat]?).map λy=> .rp y.cells else none
   |.ps id a=>
    match zf9 H id a with
    |some (k,n)=>if esz P t=some k/\z.toNat<n then some (.pp id (z.toNat*k) a)else none
    |none=>none
   |.pp id b a=>
    match arr P t with
    |some (n,k)=>if z.toNat<n then(qg H id a).map λ_=> .pp id (b+z.toNat*k) a else none
    |none=>none
   |.rp cs=>
    match arr P t with
    |some (n,k)=>if z.toNat<n then some (.rp (cs.drop (z.toNat*k)))else none
    |none=>none
   |_=>none
  else none
 |_=>none
theorem zfu{t e:TypeId}{i:TypeInfo}(d:P.underlying t=some (.slice e))(hi:P.info? e=some i)(w:World)(b o n c:Nat)(kd:IntKind)(z:Int)(h0:0<=z)(hz:z.toNat<n):
  (Instr.indexAt t (.slice (some ⟨b,o,none⟩) n c) (.int kd z)).run P w=.ok (.pointer (some ⟨b,o+z.toNat*i.size,none⟩)) w:=by
 have a:z<n:=by omega
 simp[Instr.indexAt,run_underlying d,asIntOf,sizeOf,typeInfo,hi,h0,a,Jj]
theorem zh9{t e:TypeId}{i:TypeInfo}{n:Nat}(c:P.underlying t=some (.array n e))(hi:P.info? e=some i)(w:World)(b o:Nat)(kd:IntKind)(z:Int)(h0:0<=z)(hz:z.toNat<n):
  (Instr.indexAt t (.pointer (some ⟨b,o,none⟩)) (.int kd z)).run P w=.ok (.pointer (some ⟨b,o+z.toNat*i.size,none⟩)) w:=by
 have a:z<n:=by omega
 simp[Instr.indexAt,Instr.sureAddr,run_underlying c,asIntOf,sizeOf,typeInfo,hi,h0,a,Jj]
theorem zyi{V:Nm->Value}{w:World}(hr:HRel P W H V w){t:TypeId}{y i q:PV}{v u:Value}(F:Rp W.Z H V w y v)(hi:Rp W.Z H V w i u)(d:indexAddrP P H t y i=some q):
  ∃r,(Instr.indexAt t v u).run P w=.ok r w/\Rp W.Z H V w q r:=by
 unfold indexAddrP at d;split at d
 rotate_left
 ·cases d
 rename_i K z;cases hi;split at d
 rotate_left
 ·cases d
 rename_i h0;split at d
 ·rename_i k U;split at d
  ·rename_i he;obtain⟨e,m,x,f,rfl⟩:=ze1 he;cases l:U[z.toNat]? with
   |none=>rw[l]at d;cases d
   |some y=>
    rw[l]at d;cases d;cases F with
    |nil=>simp at l
    |sl k U b o c g I Y hz C A B=>
     have N:=(wcg.1 l).1;refine⟨_,zfu x f w b o U.length c K z h0 N,.rp _ b _ (λj=>g (z.toNat*m.size+j)) hz C (λj p D=>?_) (λj p D=>?_)⟩
     ·have s:j<m.size:=by rw[<- I y (wck l)];exact(wcg.1 D).1
      have:=A (z.toNat*m.size+j) p (by rw[zuw I _ j y l s];exact D);rw[<- we0]at this;exact this
     ·have s:j<m.size:=by rw[<- I y (wck l)];exact(wcg.1 D).1
      exact B (z.toNat*m.size+j) p (by rw[zuw I _ j y l s];exact D)
  ·cases d
 ·rename_i id G;split at d
  ·rename_i k n E;split at d
   ·rename_i M;cases d;obtain⟨e,m,x,f,rfl⟩:=ze1 M.1;obtain⟨X,a,c,J,C⟩:=hr.rs_shape E F;obtain⟨b,rfl⟩:=C (by have:=M.2;simp only;omega);have Q:zc5 v=zc5 (V id):=by rw[X]
    cases F with
    |ps _ _ _ S hh=>
     rw[J];refine⟨_,zfu x f w b _ n c K z h0 M.2,.pp _ _ _ _ S λ_ _=>⟨b,by rw[<- X,J];rfl,by rw[Q]⟩⟩
   ·cases d
  ·cases d
 ·rename_i id T G;split at d
  ·rename_i n k L;split at d
   ·rename_i O;cases E:qg H id G with
    |none=>rw[E]at d;cases d
    |some cs=>
     rw[E]at d;cases d;obtain⟨A,B⟩:=Jb E;obtain⟨e,m,x,f,rfl⟩:=zxu L;cases F with
     |pp _ _ _ _ R h=>
      obtain⟨g,hg,rfl⟩:=h A B;refine⟨_,zh9 x f w g (zc5 (V id)+T) K z h0 O,.pp _ _ _ _ R λ_ _=>⟨g,hg,?_⟩⟩;rw[we0]
   ·cases d
  ·cases d
 ·rename_i cs;split at d
  ·rename_i n k L;split at d
   ·rename_i O;cases d;obtain⟨e,m,x,f,rfl⟩:=zxu L;cases F with
    |rp _ b o g hz C A B=>exact⟨_,zh9 x f w b o K z h0 O,wa3 (W:=W) (.rp cs b o g hz C A B) _⟩
   ·cases d
  ·cases d
 ·cases d
def z1e(P:Program)(t:TypeId)(cs:List PV)(off:Nat):Option PV:=
 match asz P t with
 |some (a,k)=>Y2 a k (cs.drop off)
 |none=>none
theorem z15{V:Nm->Value}{w:World}{t:TypeId}{cs:List PV}{vs:Array Value}{off:Nat}{q:PV}(r:cs.length=vs.size)(f:∀(i:Nat)(p:PV)(v:Value),cs[i]?=some p->vs[i]?=some v->Rp W.Z H V w p v)(a:z1e P t cs off=some q):
  ∃u,(part t vs off).run P w=.ok u w/\Rp W.Z H V w q u:=by
 unfold z1e at a;cases d:asz P t with
 |none=>rw[d]at a;cases a
 |some j=>
  obtain⟨h,k⟩:=j;rw[d]at a;simp only at a;obtain⟨e,l⟩:=zjv d w;unfold Y2 at a;cases h with
  |false=>
   simp only[wdp,if_false,wdv,wd5]at a;have m:=(wcg.1 a).1;have g:=wdj (xs:=vs) (show off<vs.size by omega);exact⟨vs[off]'(by omega),by unfold part;simp[Sem.run_bind,e,g],f off q _ a g⟩
  |true=>
   simp only[if_true,wdw]at a;split at a
   ·rename_i o;cases a;refine⟨.agg (vs.extract off (off+k)),by unfold part;simp[Sem.run_bind,e,l],?_⟩;refine .agg _ _ (by simp;omega) λi p v b c=>?_;rw[wd7]at b;split at b
    ·rename_i n;rw[wdv]at b;refine f (off+i) p v b ?_;rw[Array.getElem?_extract]at c;split at c
     ·exact c
     ·cases c
    ·cases b
   ·cases a
def z31(P:Program)(t:TypeId)(f:Nat)(p:PV):Option PV:=
 match fof P t f,p with
 |some (a,b),.agg cs=>z1e P b cs a
 |_,_=>none
theorem jat{V:Nm->Value}{w:World}{t:TypeId}{f:Nat}{y q:PV}{v:Value}(j:Rp W.Z H V w y v)(a:z31 P t f y=some q):∃u,(Instr.field t v f).run P w=.ok u w/\Rp W.Z H V w q u:=by
 unfold z31 at a;split at a
 ·rename_i k m cs e;obtain⟨l,n,i,b,rfl,rfl⟩:=z86 e;cases j with
  |agg _ o g d=>
   obtain⟨u,c,h⟩:=z15 g d a;exact⟨u,by simp[Instr.field,run_underlying i,b,asAgg,c],h⟩
 ·cases a
def zlr(P:Program)(t:TypeId)(p i:PV):Option PV:=
 match i with
 |.u (.int a z)=>
  match p with
  |.agg cs=>
   match arr P t,jks P t with
   |some (n,k),some e=>if 0<=z/\z.toNat<n then z1e P e cs (z.toNat*k)else none
   |_,_=>none
  |.u (.string s)=>if zc3 P t then(if 0<=z then(s[z.toNat]?).map λb=> .u (.int .u8 b.toNat)else none)else none
  |_=>none
 |_=>none
theorem jaw{V:Nm->Value}{w:World}{t:TypeId}{y i q:PV}{v u:Value}(m:Rp W.Z H V w y v)(hi:Rp W.Z H V w i u)(a:zlr P t y i=some q):∃r,(Instr.index t v u).run P w=.ok r w/\Rp W.Z H V w q r:=by
 unfold zlr at a;split at a
 rotate_left
 ·cases a
 rename_i E z;cases hi;split at a
 ·rename_i cs;split at a
  ·rename_i n k e p d;split at a
   ·rename_i hz;obtain⟨o,F,l,h,rfl⟩:=zxu p;have f:o=e:=by unfold jks at d;rw[l]at d;simpa using d
    subst f;cases m with
    |agg _ G A x=>
     obtain⟨r,C,B⟩:=z15 A x a;have j:z<n:=by omega
     exact⟨r,by simp[Instr.index,run_underlying l,asIntOf,hz.1,j,sizeOf,typeInfo,h,C],B⟩
   ·cases a
  ·cases a
 ·rename_i s;cases m;split at a
  ·rename_i g;split at a
   ·rename_i h0;cases c:s[z.toNat]? with
    |none=>rw[c]at a;cases a
    |some b=>
     rw[c]at a;cases a;unfold zc3 at g;split at g
     ·rename_i D;exact⟨_,by simp[Instr.index,run_underlying D,asIntOf,h0,c],.u _⟩
     ·cases g
   ·cases a
  ·cases a
 ·cases a
def zhg(d:Nat):Option PV->Option Nat
 |none=>some d
 |some (.u (.int _ z))=>if 0<=z then some z.toNat else none
 |_=>none
def zqd(P:Program)(t:TypeId)(p:PV)(lo hi:Option PV):Option PV:=
 match p with
 |.sl k a=>
  match zhg 0 lo,zhg a.length hi with
  |some l,some h=>if esz P t=some k/\l<=h/\h<=a.length then some (.sl k ((a.take h).drop l))else none
  |_,_=>none
 |.u (.string s)=>
  match zhg 0 lo,zhg s.size hi with
  |some l,some h=>if zc3 P t/\l<=h/\h<=s.size then some (.u (.string (s.extract l h)))else none
  |_,_=>none
 |_=>none
theorem zam{w:World}{kd:IntKind}{z:Int}(h0:0<=z){n:Nat}(hz:z.toNat<=n)(c:BoundsCode):(Instr.sliceBound (.int kd z) n c).run P w=.ok z.toNat w:=by
 have:z<=n:=by omega
 simp[Instr.sliceBound,asIntOf,h0,this]
theorem zhx{V:Nm->Value}{w:World}{d l:Nat}{lo:Option PV}{vo:Option Value}(b:∀p v,lo=some p->vo=some v->Rp W.Z H V w p v)(e:lo.isSome=vo.isSome)(a:zhg d lo=some l):
  (vo=none/\l=d)\/∃c z,vo=some (.int c z)/\0<=z/\z.toNat=l:=by
 cases lo with
 |none=>
  cases vo with
  |none=>simp[zhg]at a;exact .inl ⟨rfl,a.symm⟩
  |some v=>cases e
 |some p=>
  cases vo with
  |none=>cases e
  |some v=>
   have f:=b p v rfl rfl;unfold zhg at a;split at a
   ·rename_i h;cases h
   ·rename_i c z h;cases h;split at a
    ·rename_i h0;cases a;cases f;exact .inr ⟨c,z,rfl,h0,rfl⟩
    ·cases a
   ·cases a
theorem zns{k:Nat}:∀{xs:List PV},(∀y∈xs,y.cells.length=k)->∀m,(xs.take m).flatMap PV.cells=(xs.flatMap PV.cells).take (m*k)
 |[],_,m=>by simp
 |x::xs,a,0=>by simp
 |x::xs,a,m+1=>by
  have b:=a x (by simp);rw[List.take_succ_cons,wdd,wdd,zns (λy c=>a y (by simp[c])) m,List.take_append,b,wd6,Nat.one_mul,Nat.add_sub_cancel,wd4 (show x.cells.length<=m*k+k by omega)]
theorem zn8{k:Nat}:∀{xs:List PV},(∀y∈xs,y.cells.length=k)->∀m,(xs.drop m).flatMap PV.cells=(xs.flatMap PV.cells).drop (m*k)
 |[],_,m=>by simp
 |x::xs,a,0=>by simp
 |x::xs,a,m+1=>by
  have b:=a x (by simp);rw[List.drop_succ_cons,wdd,zn8 (λy c=>a y (by simp[c])) m,List.drop_append,b,wd6,Nat.one_mul,Nat.add_sub_cancel,List.drop_of_length_le (show x.cells.length<=m*k+k by omega),wei]
theorem wb4{V:Nm->Value}{w:World}{k:Nat}{xs:List PV}{b o c:Nat}(h:Rp W.Z H V w (.sl k xs) (.slice (some ⟨b,o,none⟩) xs.length c))(l m n:Nat)(z:l<=m)(hm:m<=xs.length)(x:m-l<=n)(f:xs≠[]):Rp W.Z H V w (.sl k ((xs.take m).drop l)) (.slice (some ⟨b,o+l*k,none⟩) (m-l) n):=by
 cases h with
 |nil=>exact absurd rfl f
 |sl _ _ _ _ _ g s r hz v t u=>
  have a:((xs.take m).drop l).length=m-l:=by simp;omega
  have j:∀y∈xs.take m,y.cells.length=k:=λy q=>s y (wez q);have d:∀(i:Nat)(p:PV),(((xs.take m).drop l).flatMap PV.cells)[i]?=some p->(xs.flatMap PV.cells)[l*k+i]?=some p:=λi p e=>by
   rw[zn8 j,wdv,zns s,wd7]at e;split at e
   ·exact e
   ·cases e
  have:=Rp.sl (Z:=W.Z) (H:=H) (V:=V) (w:=w) k ((xs.take m).drop l) b (o+l*k) n (λi=>g (l*k+i)) (λy q=>j y (we9 q)) (by rw[a];exact x) hz v (λi p e=>by rw[we0];exact t _ p (d i p e)) (λi p e=>u _ p (d i p e));rwa [a]at this
theorem y9{w:World}{isS:Bool}{len cap l h:Nat}{lo hi:Option Value}(b:(lo=none/\l=0)\/∃c z,lo=some (.int c z)/\0<=z/\z.toNat=l)(d:(hi=none/\h=len)\/∃c z,hi=some (.int c z)/\0<=z/\z.toNat=h)(f:l<=h)(g:h<=cap):
  (Instr.sliceBounds isS len cap lo hi none).run P w=.ok (l,h,cap) w:=by
 unfold Instr.sliceBounds;rcases d with⟨rfl,rfl⟩|⟨c,z,rfl,h0,rfl⟩
 ·rcases b with⟨rfl,rfl⟩|⟨e,i,rfl,a,rfl⟩
  ·simp
  ·simp[zam a f]
 ·rcases b with⟨rfl,rfl⟩|⟨e,i,rfl,a,rfl⟩
  ·simp[zam h0 g]
  ·simp[zam h0 g,zam a f]
theorem jbj{V:Nm->Value}{w:World}{t:TypeId}{y q:PV}{lo hi:Option PV}{v:Value}{vl vh:Option Value}(U:Rp W.Z H V w y v)(C:∀p v,lo=some p->vl=some v->Rp W.Z H V w p v)(F:lo.isSome=vl.isSome)(z:∀p v,hi=some p->vh=some v->Rp W.Z H V w p v)(E:hi.isSome=vh.isSome)
  (i:zqd P t y lo hi=some q):∃r,(Instr.sliceAt t v vl vh none).run P w=.ok r w/\Rp W.Z H V w q r:=by
 unfold zqd at i;split at i
 ·rename_i k K;split at i
  ·rename_i l h R Q;split at i
   ·rename_i N;cases i;obtain⟨A,I,m⟩:=N;obtain⟨e,Y,X,G,rfl⟩:=ze1 A;have f:=zhx C F R;have d:=zhx z E Q;obtain⟨a,c,⟨rfl,x⟩|⟨rfl,rfl⟩⟩:=U.sl_shape
    ·have D:(Instr.sliceAt t (.slice a K.length c) vl vh none).run P w=.ok (.slice (if c=l then a else a.map (·.add (l*Y.size))) (h-l) (c-l)) w:=by
      have n:=y9 (P:=P) (w:=w) (isS:=true) f d I (wdk m x);simp[Instr.sliceAt,Instr.slice,run_underlying X,n,sizeOf,typeInfo,G]
     refine⟨_,D,?_⟩;by_cases S:l=h
     ·subst S;have:(K.take l).drop l=[]:=by simp
      rw[this,wfy];exact .nil _ _ _
     ·have j:K≠[]:=by intro e;subst e;simp at m;omega
      have O:¬(c=l):=by omega
      rw[if_neg O];cases U with
      |nil=>exact absurd rfl j
      |sl _ _ b o _ g T B hz M J h4=>
       simp only[wc3,Jj];exact wb4 (.sl _ K b o c g T B hz M J h4) l h (c-l) I m (by omega) j
    ·simp only[wfb,Nat.le_zero]at m;subst m;have L:l=0:=by omega
     subst L;have n:=y9 (P:=P) (w:=w) (isS:=true) (len:=0) (cap:=c) f (by simpa using d) (wcq 0) (wem c);refine⟨.slice (if c=0 then a else a.map (·.add (0*Y.size))) (0-0) (c-0),by simp[Instr.sliceAt,Instr.slice,run_underlying X,n,sizeOf,typeInfo,G],?_⟩;simp only[List.take_nil,List.drop_nil,wfy];exact .nil _ _ _
   ·cases i
  ·cases i
 ·rename_i s;split at i
  ·rename_i l h R Q;split at i
   ·rename_i N;cases i;obtain⟨A,I,m⟩:=N;cases U;have f:=zhx C F R;have d:=zhx z E Q;unfold zc3 at A;split at A
    ·rename_i T;have n:=y9 (P:=P) (w:=w) (isS:=false) f d I m;exact⟨_,by simp[Instr.sliceAt,Instr.slice,run_underlying T,n],.u _⟩
    ·cases A
   ·cases i
  ·cases i
 ·cases i
end
section
variable{P:Program}{W:Env}{n:Nat}{H:PHeap}{F:PFrame}
def setMany{α:Type}(cs:List α)(off:Nat)(ps:List α):List α:=cs.take off++ps++cs.drop (off+ps.length)
theorem V7{α:Type}(cs ps:List α)(off:Nat)(h:off+ps.length<=cs.length)(i:Nat):(setMany cs off ps)[i]?=if off<=i/\i<off+ps.length then ps[i-off]? else cs[i]?:=by
 unfold setMany;have c:(cs.take off).length=off:=by simp;omega
 by_cases a:i<off
 ·rw[if_neg (by omega),wc6,wcr (by omega),wd7,if_pos a]
 ·by_cases b:i<off+ps.length
  ·rw[if_pos ⟨by omega,b⟩,wc6,wct (by omega),c,wcr (by omega)]
  ·rw[if_neg (by omega),wct (by simp;omega),wdv];congr 1;simp;omega
theorem Q0{α:Type}(cs ps:List α)(off:Nat)(h:off+ps.length<=cs.length):(setMany cs off ps).length=cs.length:=by
 unfold setMany;simp;omega
theorem z6d(off:Nat):∀(l:List Value)(k:Nat)(cells:Array Value),off+k+l.length<=cells.size ->
  ((l.zipIdx k).foldl (λcs(x:Value×Nat)=>cs.setIfInBounds (off+x.2) x.1) cells).toList=setMany cells.toList (off+k) l
 |[],k,cells,h=>by simp[setMany]
 |v::l,k,cells,h=>by
  simp only[List.zipIdx_cons,List.foldl_cons];rw[z6d off l (k+1) _ (by simp at h⊢;omega)];simp only[wdy]at h;apply wee;intro i;rw[V7 _ _ _ (by simp;omega),V7 _ _ _ (by simp;omega)];simp only[wdy,Array.toList_setIfInBounds];by_cases b:i=off+k
  ·subst b;rw[if_neg (by omega),if_pos (by omega),wc8,if_pos rfl,if_pos (by simp;omega),wfy];simp
  ·by_cases a:off+(k+1)<=i/\i<off+(k+1)+l.length
   ·rw[if_pos a,if_pos (by omega),show i-(off+k)=(i-(off+(k+1)))+1 by omega,we3]
   ·rw[if_neg a,if_neg (by omega),wc8,if_neg (by omega)]
def zii(H:PHeap)(places:List (Nat×Nat)):List PV->List (Nat×PV)->Option (List PV)
 |cs,[]=>some cs
 |cs,(i,p)::c=>
  match places[i]? with
  |none=>none
  |some (b,a)=>if p.cells.length=a/\b+a<=cs.length/\okC H p=true then zii H places (setMany cs b p.cells) c else none
theorem RpL.setMany{V:Nm->Value}{w:World}{cs ps:List PV}{vs us:List Value}(h:RpL W.Z H V w cs vs)(d:RpL W.Z H V w ps us){off:Nat}(e:off+ps.length<=cs.length):RpL W.Z H V w (setMany cs off ps) (setMany vs off us):=by
 have f:=h.1;have g:=d.1;refine⟨by rw[Q0 _ _ _ e,Q0 _ _ _ (by omega),f],λi p v b a=>?_⟩;rw[V7 _ _ _ e]at b;rw[V7 _ _ _ (by omega),<- g]at a;split at b
 ·rename_i c;rw[if_pos c]at a;exact d.2 _ p v b a
 ·rename_i c;rw[if_neg c]at a;exact h.2 _ p v b a
theorem zfo{α:Type}{cs ps:List α}{off:Nat}{x:α}(h:x∈setMany cs off ps):x∈cs\/x∈ps:=by
 unfold setMany at h;simp only[wco]at h;rcases h with(h|h)|h
 ·exact .inl (wez h)
 ·exact .inr h
 ·exact .inl (we9 h)
def RpParts(Z:ZM)(H:PHeap)(V:Nm->Value)(w:World)(ps:List (Nat×PV))(vs:List (Nat×Value)):Prop:=ps.length=vs.length/\∀(i:Nat)(p:Nat×PV)(v:Nat×Value),ps[i]?=some p->vs[i]?=some v->p.1=v.1/\Rp Z H V w p.2 v.2
theorem zhn{V:Nm->Value}{w:World}(K:HRel P W H V w){place:Nat->Option (Nat×Nat)}{places:List (Nat×Nat)}(I:∀(i:Nat)(x:Nat×Nat),places[i]?=some x->place i=some x):∀(ps:List (Nat×PV))(vs:List (Nat×Value))(cs:List PV)(arr:Array Value)(q:List PV),
  RpParts W.Z H V w ps vs->RpL W.Z H V w cs arr.toList->(∀v∈arr.toList,v.oneCell'=true)->zii H places cs ps=some q->∃r,Instr.fill place arr vs=some r/\RpL W.Z H V w q r.toList/\∀v∈r.toList,v.oneCell'=true
 |[],[],cs,arr,q,_,t,y,f=>by simp only[zii,wdn]at f;subst f;exact⟨arr,rfl,t,y⟩
 |[],_::_,_,_,_,h,_,_,_=>by have:=h.1;simp at this
 |_::_,[],_,_,_,h,_,_,_=>by have:=h.1;simp at this
 |(i,p)::ps,(j,v)::vs,cs,arr,q,h,t,y,f=>by
  obtain⟨e,n⟩:=h.2 0 _ _ rfl rfl;simp only at e n;subst e;simp only[zii]at f;split at f
  ·cases f
  ·rename_i g s A;split at f
   ·rename_i l;obtain⟨N,G,z⟩:=l;obtain⟨c,m⟩:=n.cells K z;have E:v.cells.size=s:=by rw[<- N];have:=c.1;simpa using this.symm
    have F:arr.size=cs.length:=by have:=t.1;simpa using this.symm
    have d:(v.cells.zipIdx.foldl (λcs(x:Value×Nat)=>cs.setIfInBounds (g+x.2) x.1) arr).toList=setMany arr.toList g v.cells.toList:=by
     have:=z6d g v.cells.toList 0 arr (by simp;omega);rw[wd5]at this;rw[<- this,<- Array.foldl_toList,Array.toList_zipIdx]
    obtain⟨r,B,C,D⟩:=zhn K I ps vs _ (v.cells.zipIdx.foldl (λcs(x:Value×Nat)=>cs.setIfInBounds (g+x.2) x.1) arr) q ⟨by have:=h.1;simpa using this,λk a b L M=>h.2 (k+1) a b (by simpa using L) (by simpa using M)⟩
     (by rw[d];exact t.setMany c (by omega)) (by rw[d];intro u o;rcases zfo o with o|o;exact y u o;exact m u o) f
    refine⟨r,?_,C,D⟩;simp only[Instr.fill,I i _ A];rw[if_neg (by simp[E];omega)];exact B
   ·cases f
def jix(P:Program)(t:TypeId):Option (List PV×List (Nat×Nat)):=
 match (P.info? t).bind (·.zero)with
 |none=>none
 |some z=>
  match P.underlying t with
  |some (.struct a)=>(a.toList.mapM λf=>(P.info? f.type).map λi=>(f.offset,i.size)).map λl=>(z.cells.toList.map .u,l)
  |some (.array m e)=>(P.info? e).map λi=>(z.cells.toList.map .u,(List.range m).map λj=>(j*i.size,i.size))
  |_=>none
theorem z7b{α β:Type}(f:α->Sem β):∀l:List α,(l.mapM f).val P=l.mapM λa=>(f a).val P
 |[]=>by simp[q6]
 |a::l=>by
  simp only[we6,qu,q6,z7b f l];rfl
theorem RpL.us{V:Nm->Value}{w:World}(vs:List Value):RpL W.Z H V w (vs.map .u) vs:=⟨by simp,λi p v a b=>by
 rw[wcp,b]at a;cases a;exact .u _⟩
def z27(P:Program)(H:PHeap)(t:TypeId)(b:List (Nat×PV)):Option PV:=
 match jix P t with
 |none=>none
 |some (c,a)=>if c.all (Jm H)then(zii H a c b).map .agg else none
theorem z9q{V:Nm->Value}{w:World}(L:HRel P W H V w){t:TypeId}{ps:List (Nat×PV)}{vs:Array (Nat×Value)}{q:PV}(K:RpParts W.Z H V w ps vs.toList)(b:z27 P H t ps=some q):∃r,(Instr.build t vs).run P w=.ok r w/\Rp W.Z H V w q r:=by
 unfold z27 at b;cases a:jix P t with
 |none=>rw[a]at b;cases b
 |some S=>
  obtain⟨M,places⟩:=S;rw[a]at b;simp only at b;split at b
  rotate_left
  ·cases b
  rename_i g;cases A:zii H places M ps with
  |none=>rw[A]at b;cases b
  |some cs=>
   rw[A]at b;cases b;unfold jix at a;cases hz:(P.info? t).bind (·.zero)with
   |none=>rw[hz]at a;cases a
   |some z=>
    rw[hz]at a;simp only at a;obtain⟨T,F,G⟩:=wdm.1 hz;have d:(zeroValue t).run P w=.ok z w:=by simp[zeroValue,typeInfo,F,G]
    have h:∀k:List Value,M=k.map .u->∀v∈k,v.oneCell'=true:=λk e v Q=>by
     rw[wdx]at g;exact g (.u v) (by rw[e];exact List.mem_map_of_mem Q)
    split at a
    ·rename_i N I;obtain⟨l,O,C⟩:=wcs.1 a;cases C;have E:(N.mapM λf=>(do pure (f.offset,<- sizeOf f.type):Sem (Nat×Nat))).run P w=.ok places.toArray w:=by
      refine zd4 ?_ w;rw[Array.mapM_eq_mapM_toList];show(List.toArray <$> _:Sem _).val P=_;rw[<- bind_pure_comp,qu,z7b];have:(λf:Field=>(do pure (f.offset,<- sizeOf f.type):Sem (Nat×Nat)).val P)=λf=>(P.info? f.type).map λi=>(f.offset,i.size):=by
       funext f;cases B:P.info? f.type with
       |none=>simp[sizeOf,typeInfo,program,qu,zux,Sem.val,B,stuck]
       |some i=>simp[sizeOf,typeInfo,program,qu,zux,q6,Sem.val,B]
      rw[this,O];rfl
     obtain⟨r,n,c,_⟩:=zhn L (place:=(places.toArray[·]?)) (places:=places) (λi x o=>by simpa using o) ps vs.toList _ z.cells cs K (RpL.us _) (h _ rfl) A;refine⟨.agg r,?_,.agg _ _ (by simpa using c.1) λi p v y s=>c.2 i p v y (by simpa using s)⟩;unfold Instr.build;simp only[Sem.run_bind,d,Result.andThen_ok,run_underlying I,E,n,Sem.run_pure]
    ·rename_i m e I;obtain⟨i,B,C⟩:=wcs.1 a;cases C;obtain⟨r,n,c,_⟩:=zhn L (place:=λj=>some (j*i.size,i.size)) (places:=(List.range m).map λj=>(j*i.size,i.size)) (λj x o=>by
      rw[wcp]at o;cases D:(List.range m)[j]? with
      |none=>rw[D]at o;cases o
      |some R=>
       rw[D]at o;have:R=j:=by
        have:=wcg.1 D;obtain⟨y,s⟩:=this;simpa using s.symm
       subst this;simpa using o) ps vs.toList _ z.cells cs K (RpL.us _) (h _ rfl) A
     refine⟨.agg r,?_,.agg _ _ (by simpa using c.1) λi p v y s=>c.2 i p v y (by simpa using s)⟩;unfold Instr.build;simp[Sem.run_bind,d,run_underlying I,sizeOf,typeInfo,B,n]
    ·cases a
end
section
variable{P:Program}{W:Env}{n:Nat}{H:PHeap}{F:PFrame}
def jmh(H:PHeap):PV->Option PV
 |.pp id d c=>(qg H id c).map λ_=> .pp id d c
 |.rp cs=>some (.rp cs)
 |.fn (.func g) a b=>some (.fn (.func g) a b)
 |_=>none
def jj2(P:Program)(H:PHeap)(F:PFrame)(ty:TypeId)(c:Call):Option PV:=
 match c.callee with
 |.builtin .len=>
  match c.args.toList,c.argTypes.toList with
  |[x],[t]=>lenP P H t (evP F x)
  |_,_=>none
 |.builtin b=>z3p P b c.argTypes ty (c.args.toList.map (evP F))
 |_=>none
def jc2(P:Program)(t:TypeId):Bool:=match P.underlying t with|some (.pointer _)=>true|_=>false
def zvk(H:PHeap):PV->Option Bool
 |.sl _ (_::_)=>some false
 |.u (.slice a _ _)=>some a.isNone
 |.ps id b=>match Jf H id b with
  |some (_,_,n,_)=>if 0<n then some false else none
  |none=>none
 |_=>none
def zpb(H:PHeap):PV->Option Bool
 |.rp _=>some false
 |.u (.pointer a)=>some a.isNone
 |.pp id _ b=>(qg H id b).map λ_=>false
 |_=>none
theorem z85{V:Nm->Value}{w:World}(s:HRel P W H V w){p:PV}{b:Bool}{v:Value}(h:zvk H p=some b)(d:Rp W.Z H V w p v):∃a m c,v=.slice a m c/\a.isNone=b:=by
 unfold zvk at h;split at h
 ·cases h;cases d;exact⟨_,_,_,rfl,rfl⟩
 ·cases h;cases d;exact⟨_,_,_,rfl,rfl⟩
 ·split at h
  ·rename_i t k m cs q;split at h
   ·rename_i x;cases h;obtain⟨i,f⟩:=zq q;cases d with
    |ps _ _ _ u o=>
     rw[o (by rw[i];rfl) f];obtain⟨j,r,_⟩:=s.row _ t k m cs i;rcases r.2 with⟨e,rfl⟩|⟨g,l,n,e,_⟩
     ·omega
     ·exact⟨_,_,_,e,rfl⟩
   ·cases h
  ·cases h
 ·cases h
theorem z8e{V:Nm->Value}{w:World}(j:HRel P W H V w){p:PV}{b:Bool}{v:Value}(h:zpb H p=some b)(c:Rp W.Z H V w p v):∃a,v=.pointer a/\a.isNone=b:=by
 unfold zpb at h;split at h
 ·cases h;cases c;exact⟨_,rfl,rfl⟩
 ·cases h;cases c;exact⟨_,rfl,rfl⟩
 ·obtain⟨cs,i,rfl⟩:=wcs.1 h;obtain⟨d,e⟩:=Jb i;cases c with
  |pp _ _ _ _ k f=>
   obtain⟨g,_,rfl⟩:=f d e;exact⟨_,rfl,rfl⟩
 ·cases h
def zx1(a:BinOp)(o:Option Bool):Option PV:=match o,a with
 |some b,.eql=>some (.u (.bool b))
 |some b,.neq=>some (.u (.bool (!b)))
 |_,_=>none
def jfd(P:Program)(H:PHeap)(F:PFrame)(a:BinOp)(t:TypeId)(x y:Operand):Option PV:=
 match y with
 |.const (.slice none 0 0)=>if zak P t then zx1 a (zvk H (evP F x))else none
 |.const (.pointer none)=>if jc2 P t then zx1 a (zpb H (evP F x))else none
 |y=>zi P a t x y (evP F x) (evP F y)
def Vg(P:Program)(H:PHeap)(F:PFrame)(o:Oper):Option PV:=
 match o.op with
 |.move x|.assign x=>some (evP F x)
 |.pick c a b=>match evP F c with
  |.u (.bool t)=>some (if t then evP F a else evP F b)
  |_=>none
 |.binOp g t x y _=>jfd P H F g t x y
 |.unOp g _ x=>unP P g (evP F x)
 |.convert s d x=>jb9 P s d (evP F x)
 |.load t x=>za0 P H t (evP F x)
 |.fieldAddr s x f=>fieldAddrP P H s f (evP F x)
 |.indexAddr t x i=>indexAddrP P H t (evP F x) (evP F i)
 |.index t x i=>zlr P t (evP F x) (evP F i)
 |.field t x f=>z31 P t f (evP F x)
 |.slice t x j h none=>zqd P t (evP F x) (j.map (evP F)) (h.map (evP F))
 |.extract x i=>match evP F x with
  |.tup cs=>cs[i]?
  |_=>none
 |.build t e=>z27 P H t (e.toList.map λx=>(x.1,evP F x.2))
 |.makeFunc f a b=>some (.fn f (a.toList.map (evP F)) (b.toList.map (evP F)))
 |.nilCheck x=>jmh H (evP F x)
 |.call c=>jj2 P H F o.type c
 |_=>none
theorem z16{V:Nm->Value}{w:World}:∀{ps:List PV}{vs us:List Value},ps.mapM PV.val2=some us->RpL W.Z H V w ps vs->vs=us
 |[],vs,us,h,c=>by
  have:=c.1;simp at h this;subst h;exact wde this.symm
 |p::ps,[],us,h,c=>by have:=c.1;simp at this
 |p::ps,v::vs,us,h,c=>by
  simp only[we6,bind_pure_comp,Option.bind_eq_bind]at h;cases d:p.val2 with
  |none=>rw[d]at h;cases h
  |some u=>
   cases e:ps.mapM PV.val2 with
   |none=>rw[d,e]at h;cases h
   |some m=>
    rw[d,e]at h;simp at h;subst h;have f:vs=m:=z16 e ⟨by have:=c.1;simpa using this,λi a b g j=>c.2 (i+1) a b (by simpa using g) (by simpa using j)⟩;rw[(c.2 0 p v rfl rfl).val2 d,f]
theorem RpL.eval{V:Nm->Value}{w:World}{a:Act}:∀(xs:List Operand),(∀x∈xs,Rp W.Z H V w (evP F x) (a.eval x))->RpL W.Z H V w (xs.map (evP F)) (xs.map a.eval):=λxs h=>⟨by simp,λi p v b c=>by
 rw[wcp]at b c;cases d:xs[i]? with
 |none=>rw[d]at b;cases b
 |some x=>
  rw[d]at b c;cases b;cases c;exact h x (wck d)⟩
theorem z69{o:Oper}{c:Call}{p:PV}(A:o.op=.call c)(h:jj2 P H F o.type c=some p):PQ P W o F H p:=by
 refine waf λV a w K B=>?_;rw[A]at B;obtain⟨i,e,d⟩:=c;unfold jj2 at h;cases i with
 |value f=>simp at h
 |invoke r m=>simp at h
 |builtin b=>
  have g:∀x∈e.toList,Rp W.Z H V w (evP F x) (a.eval x):=λx z=>B x (by simp[Op.operands,Call.operands];simpa using z);have n:(execOp a.eval o)=builtin b d o.type (e.map λ|.const _=>true|_=>false) (e.map a.eval):=by
   unfold execOp;simp only[A];unfold resolve;simp only[pure_bind];rfl
  by_cases l:b=.len
  ·subst l;simp only at h;split at h
   ·rename_i x t E G;have C:e = #[x]:=by apply Array.ext';simpa using E
    have D:d = #[t]:=by apply Array.ext';simpa using G
    subst C D;obtain⟨u,L,I⟩:=jku (ty:=o.type) K (g x (by simp)) h;exact⟨u,by rw[n];simp[builtin,L],I⟩
   ·cases h
  ·have j:z3p P b d o.type (e.toList.map (evP F))=some p:=by
    cases b<;>first|exact h|exact absurd rfl l
   unfold z3p at j;cases q:(e.toList.map (evP F)).mapM PV.val2 with
   |none=>rw[q]at j;cases j
   |some us=>
    rw[q]at j;simp only at j;have s:=z16 q (RpL.eval (F:=F) (a:=a) e.toList g);have k:e.map a.eval=us.toArray:=by apply Array.ext';simpa using s
    split at j
    ·obtain⟨v,y,rfl⟩:=wcs.1 j;exact⟨v,by rw[n];simp[builtin,k,zd4 y w],Rp.ofV _ _ _ _ _⟩
    ·obtain⟨v,y,rfl⟩:=wcs.1 j;exact⟨v,by rw[n];simp[builtin,k,zd4 y w],Rp.ofV _ _ _ _ _⟩
    ·cases j
theorem qp{o:Oper}{p:PV}(h:Vg P H F o=some p):PQ P W o F H p:=by
 obtain⟨b5,op,b1,b7,R,U⟩:=o;cases op<;>simp only[Vg]at h
 case move x=>
  cases h;exact waf λV a w r j=>⟨_,rfl,j x (by simp[Op.operands])⟩
 case assign x=>
  cases h;exact waf λV a w r j=>⟨_,rfl,j x (by simp[Op.operands])⟩
 case pick c a b=>
  split at h
  ·rename_i t G;cases h;refine waf λV k w r j=>?_;have O:=j c (by simp[Op.operands]);rw[G]at O;have a0:k.eval c=.bool t:=by generalize k.eval c=q at O;cases O;rfl
   refine⟨if t then k.eval a else k.eval b,by simp[execOp,a0,asBool],?_⟩;cases t
   ·exact j b (by simp[Op.operands])
   ·exact j a (by simp[Op.operands])
  ·cases h
 case binOp op t x y yt=>
  unfold jfd at h;split at h
  ·split at h
   ·rename_i G;unfold zx1 at h;unfold zak at G;split at G
    ·rename_i e B;have E:∀(b:Bool),zvk H (evP F x)=some b->∀(V:Nm->Value)(k:Act)(w:World),HRel P W H V w->Rp W.Z H V w (evP F x) (k.eval x)->(Op.equal t (k.eval x) (.slice none 0 0)).run P w=.ok b w/\∃a m c,k.eval x=.slice a m c:=by
      intro b A V k w r j;obtain⟨a,m,c,S,T⟩:=z85 r A j;rw[S];refine⟨?_,a,m,c,rfl⟩;subst T;have Y:∀d,(Op.equalIn (d+1) t (.slice a m c) (.slice none 0 0)).run P w=.ok a.isNone w:=λd=>by
       cases a<;>simp[Op.equalIn,run_underlying B]
      exact Y 9999
     split at h
     ·rename_i b A;cases h;refine waf λV k w r j=>?_;obtain⟨n,a,m,c,z⟩:=E b A V k w r (j x (by simp[Op.operands]));rw[z]at n;have L:∀u,k.eval (.const u)=u:=λ_=>rfl;exact⟨.bool b,by simp[execOp,z,L,eqGuard,binOp,n],.u _⟩
     ·rename_i b A;cases h;refine waf λV k w r j=>?_;obtain⟨n,a,m,c,z⟩:=E b A V k w r (j x (by simp[Op.operands]));rw[z]at n;have L:∀u,k.eval (.const u)=u:=λ_=>rfl;exact⟨.bool (!b),by simp[execOp,z,L,eqGuard,binOp,n],.u _⟩
     ·cases h
    ·cases G
   ·cases h
  ·split at h
   ·rename_i G;unfold zx1 at h;unfold jc2 at G;split at G
    ·rename_i e B;have E:∀(b:Bool),zpb H (evP F x)=some b->∀(V:Nm->Value)(k:Act)(w:World),HRel P W H V w->Rp W.Z H V w (evP F x) (k.eval x)->(Op.equal t (k.eval x) (.pointer none)).run P w=.ok b w/\∃a,k.eval x=.pointer a:=by
      intro b A V k w r j;obtain⟨a,S,T⟩:=z8e r A j;rw[S];refine⟨?_,a,rfl⟩;subst T;have Y:∀d,(Op.equalIn (d+1) t (.pointer a) (.pointer none)).run P w=.ok a.isNone w:=λd=>by
       cases a<;>simp[Op.equalIn,run_underlying B]
      exact Y 9999
     split at h
     ·rename_i b A;cases h;refine waf λV k w r j=>?_;obtain⟨n,a,z⟩:=E b A V k w r (j x (by simp[Op.operands]));rw[z]at n;have L:∀u,k.eval (.const u)=u:=λ_=>rfl;exact⟨.bool b,by simp[execOp,z,L,eqGuard,binOp,n],.u _⟩
     ·rename_i b A;cases h;refine waf λV k w r j=>?_;obtain⟨n,a,z⟩:=E b A V k w r (j x (by simp[Op.operands]));rw[z]at n;have L:∀u,k.eval (.const u)=u:=λ_=>rfl;exact⟨.bool (!b),by simp[execOp,z,L,eqGuard,binOp,n],.u _⟩
     ·cases h
    ·cases G
   ·cases h
  unfold zi at h;split at h
  ·rename_i a b I A;obtain⟨v,C,rfl⟩:=wcs.1 h;refine waf λV k w r j=>⟨v,?_,Rp.ofV _ _ _ _ _⟩
   have n:=(j x (by simp[Op.operands])).val2 I;have z:=(j y (by simp[Op.operands])).val2 A;have N:=zd4 C w;simp only[execOp,n,z];rw[Sem.run_bind,N];rfl
  ·cases h
 case unOp op t x=>
  unfold unP at h;split at h
  ·rename_i a I;obtain⟨v,C,rfl⟩:=wcs.1 h;refine waf λV k w r j=>⟨v,?_,Rp.ofV _ _ _ _ _⟩
   have n:=(j x (by simp[Op.operands])).val2 I;simp only[execOp,n];rw[Sem.run_bind,zd4 C w];rfl
  ·cases h
 case convert s d x=>
  unfold jb9 at h;split at h
  ·rename_i a I;obtain⟨v,C,rfl⟩:=wcs.1 h;refine waf λV k w r j=>⟨v,?_,Rp.ofV _ _ _ _ _⟩
   have n:=(j x (by simp[Op.operands])).val2 I;simp only[execOp,n];rw[Sem.run_bind,zd4 C w];rfl
  ·cases h
 case load t x=>
  refine waf λV k w r j=>?_;obtain⟨u,B,D⟩:=zrs r (j x (by simp[Op.operands])) h;exact⟨u,by simp[execOp,B],D⟩
 case fieldAddr s x f=>
  refine waf λV k w r j=>?_;obtain⟨u,B,D⟩:=zu1 (j x (by simp[Op.operands])) h;exact⟨u,by simp[execOp,B],D⟩
 case indexAddr t x i=>
  refine waf λV k w r j=>?_;obtain⟨u,B,D⟩:=zyi r (j x (by simp[Op.operands])) (j i (by simp[Op.operands])) h;exact⟨u,by simp[execOp,B],D⟩
 case index t x i=>
  refine waf λV k w r j=>?_;obtain⟨u,B,D⟩:=jaw (j x (by simp[Op.operands])) (j i (by simp[Op.operands])) h;exact⟨u,by simp[execOp,B],D⟩
 case field t x f=>
  refine waf λV k w r j=>?_;obtain⟨u,B,D⟩:=jat (j x (by simp[Op.operands])) h;exact⟨u,by simp[execOp,B],D⟩
 case slice t x lo M mx=>
  cases mx with
  |some m=>simp at h
  |none=>
   refine waf λV k w r j=>?_;obtain⟨u,B,D⟩:=jbj (vl:=lo.map k.eval) (vh:=M.map k.eval) (j x (by simp[Op.operands])) (λp v n z=>by
    cases lo with
    |none=>cases n
    |some l=>cases n;cases z;exact j l (by simp[Op.operands])) (by simp) (λp v n z=>by
    cases M with
    |none=>cases n
    |some l=>cases n;cases z;exact j l (by simp[Op.operands])) (by simp) h
   exact⟨u,by simp[execOp,B],D⟩
 case extract x i=>
  split at h
  ·rename_i cs J;refine waf λV k w r j=>?_;have n:=j x (by simp[Op.operands]);rw[J]at n;generalize hq:k.eval x=q at n;cases n with
   |tup _ vs Q O=>
    have b6:=(wcg.1 h).1;have C:=wdj (xs:=vs) (show i<vs.size by omega);exact⟨vs[i]'(by omega),by simp[execOp,hq,Instr.extract,C],O i p _ h C⟩
  ·cases h
 case build t parts=>
  refine waf λV k w r j=>?_;obtain⟨u,B,D⟩:=z9q (vs:=parts.map λ(x:Nat×Operand)=>(x.1,k.eval x.2)) r ⟨by simp,λi p v n z=>by
   rw[wcp]at n;rw[Array.toList_map,wcp]at z;cases M:parts.toList[i]? with
   |none=>rw[M]at n;cases n
   |some y=>
    rw[M]at n z;cases n;cases z;refine⟨rfl,j y.2 ?_⟩;simp only[Op.operands,List.mem_toArray,wcz];exact⟨y,wck M,rfl⟩⟩ h
  exact⟨u,by simp[execOp,B],D⟩
 case makeFunc f a b=>
  cases h;refine waf λV k w r j=>⟨.func f (a.map k.eval) (b.map k.eval),by simp[execOp,Instr.makeFunc],?_⟩
  have n:=RpL.eval (W:=W) (H:=H) (V:=V) (w:=w) (F:=F) (a:=k) a.toList λx K=>j x (by simp[Op.operands];left;simpa using K);have z:=RpL.eval (W:=W) (H:=H) (V:=V) (w:=w) (F:=F) (a:=k) b.toList λx K=>j x (by simp[Op.operands];right;simpa using K);exact .fn f _ _ _ _ (by simp) (by simp) (λi p v N X=>n.2 i p v N (by simpa using X)) (λi p v N X=>z.2 i p v N (by simpa using X))
 case nilCheck x=>
  refine waf λV k w r j=>?_;have n:=j x (by simp[Op.operands]);generalize hq:evP F x=q at h n;unfold jmh at h;split at h
  ·rename_i id a6 a8;cases Q:qg H id a8 with
   |none=>rw[Q]at h;cases h
   |some cs=>
    rw[Q]at h;cases h;obtain⟨a1,a2⟩:=Jb Q;generalize C:k.eval x=v at n;cases n with
    |pp _ _ _ _ a5 hh=>
     obtain⟨g,hg,rfl⟩:=hh a1 a2;exact⟨.pointer (some ⟨g,zc5 (V id)+a6,none⟩),by simp[execOp,C],.pp _ _ _ _ a5 hh⟩
  ·cases h;generalize C:k.eval x=v at n;cases n with
   |rp _ b o g hz A n z=>exact⟨.pointer (some ⟨b,o,none⟩),by simp[execOp,C],.rp _ b o g hz A n z⟩
  ·cases h;generalize C:k.eval x=v at n;cases n with
   |fn _ _ _ va vb a3 a4 I A=>exact⟨.func _ va vb,by simp[execOp,C],.fn _ _ _ va vb a3 a4 I A⟩
  ·cases h
 case call c=>exact z69 rfl h
 all_goals cases h
structure Turn(W:Env)(H:PHeap)(V:Nm->Value)(w:World)(d:Nm)(b':zlj)(v0:Value)(w':World):Prop where
 below:Below W.w.heap.size W.w w'
 size:w.heap.size<=w'.heap.size
 block:∀b,b<w.heap.size->¬((H d).body.isSome=true/\qf (V d)=some b)->w'.heap[b]?=w.heap[b]?
 own:∀g,qf v0=some g->w.heap.size<=g\/((H d).body.isSome=true/\qf (V d)=some g)
 ver:(H d).ver<b'.ver\/(b'.ver=(H d).ver/\v0=V d/\(H d).body.isSome=true)
def yq(V:Nm->Value)(d:Nm)(v:Value):Nm->Value:=λi=>if i=d then v else V i
section
variable{V:Nm → Value}{w w' : World}{d:Nm}{b' : zlj}{v0:Value}
theorem Turn.rp(i:Turn W H V w d b' v0 w'){p:PV}{v:Value}(h:Rp W.Z H V w p v):Rp W.Z (H.set d b') (yq V d v0) w' p v:=by
 refine h.mono (λb hz j=>⟨λc=>?_,wfq j i.size,i.block b j λk=>hz (.inr ⟨d,k.1,k.2⟩)⟩) (wcq _) (λid=>?_) (λid m n f a=>?_)
 ·rcases c with c|⟨id,f,a⟩
  ·exact hz (.inl c)
  ·by_cases e:id=d
   ·subst e;simp only[yq,if_true]at a;rcases i.own b a with g|g
    ·omega
    ·exact hz (.inr ⟨_,g.1,g.2⟩)
   ·simp only[yq,if_neg e]at a;simp only[PHeap.set,if_neg e]at f;exact hz (.inr ⟨id,f,a⟩)
 ·by_cases e:id=d
  ·subst e;simp only[PHeap.set,if_true];rcases i.ver with h|⟨h,_⟩<;>omega
  ·simp[PHeap.set,e]
 ·by_cases e:id=d
  ·subst e;simp only[PHeap.set,if_true]at f a;rcases i.ver with h|⟨h,g,l⟩
   ·omega
   ·exact⟨l,by omega,by simp[yq,g]⟩
  ·simp only[PHeap.set,if_neg e]at f a;exact⟨f,a,by simp[yq,e]⟩
def BodyRel(W:Env)(H:PHeap)(V:Nm->Value)(w:World)(v:Value):PBody->Prop
 |.row t k n cs=>∃a,w.ownsRow W.w.heap.size t k v n a/\RpL W.Z H V w cs a/\∀v∈a,v.oneCell'=true
 |.box t cs=>∃g arr,v=.pointer (some ⟨g,0,none⟩)/\W.w.heap.size<=g/\w.heap[g]?=some (.cells arr t (0,0))/\RpL W.Z H V w cs arr.toList/\∀v∈arr.toList,v.oneCell'=true
 |.raw p cs φ=>∃g o b,v=joq p g/\W.w.heap.size<=g/\w.heap[g]?=some o/\φ g o b/\RpL W.Z H V w cs b
 |.que t k n cs=>∃b,(PBody.que t k n cs).Is w W.w.heap.size v b/\RpL W.Z H V w cs b
theorem BodyRel.body{W:Env}{H:PHeap}{V:Nm->Value}{w:World}{v:Value}{bd:PBody}(h:BodyRel W H V w v bd):∃a,bd.Is w W.w.heap.size v a/\RpL W.Z H V w bd.cs a:=by
 cases bd with
 |row t k n cs=>obtain⟨a,b,c,d⟩:=h;exact⟨a,⟨b,d⟩,c⟩
 |box t cs=>obtain⟨g,arr,b,c,d,e,f⟩:=h;exact⟨arr.toList,⟨g,b,c,d,f⟩,e⟩
 |raw p cs φ=>obtain⟨g,o,a,b,c,d,e,f⟩:=h;exact⟨a,⟨g,o,b,c,d,e⟩,f⟩
 |que t k n cs=>exact h
theorem Turn.heap(m:Turn W H V w d b' v0 w')(f:HRel P W H V w)(x:∀r,b'.body=some r->BodyRel W (H.set d b') (yq V d v0) w' v0 r):HRel P W (H.set d b') (yq V d v0) w':=by
 have keep:∀id g,id≠d->(H id).body.isSome=true->qf (V id)=some g->w'.heap[g]?=w.heap[g]?:=λid g e q s=>by
  refine m.block g (f.own_lt q s).2 λu=>e (f.apart id d g q u.1 s u.2)
 refine⟨m.below,λid r c=>?_,λi=>m.rp (f.ghost i),λid k g j a h n=>?_,λb hz=>wfq (f.zlt b hz) m.size,λid g j a hz=>?_⟩
 ·by_cases e:id=d
  ·subst e;simp only[PHeap.set,if_true]at c;have:=(x _ c).body;simp only[yq,if_true];exact this
  ·simp only[PHeap.set,if_neg e]at c;obtain⟨A,j,a⟩:=f.body id r c;simp only[yq,if_neg e];exact⟨A,j.keep λb z=>keep id b e (by rw[c];rfl) z,a.mono λp v y=>m.rp y⟩
 ·have own:∀g,qf v0=some g->∀id,id≠d->(H id).body.isSome=true->qf (V id)=some g->False:=λg s id e q o=>by
   rcases m.own g s with t|t
   ·have:=(f.own_lt q o).2;omega
   ·exact e (f.apart id d g q t.1 o t.2)
  by_cases e:id=d
  ·by_cases l:k=d
   ·rw[e,l]
   ·subst e;simp only[yq,if_true]at h;simp only[yq,if_neg l]at n;simp only[PHeap.set,if_neg l]at a;exact(own g h k l a n).elim
  ·by_cases l:k=d
   ·subst l;simp only[yq,if_true]at n;simp only[yq,if_neg e]at h;simp only[PHeap.set,if_neg e]at j;exact(own g n id e j h).elim
   ·simp only[yq,if_neg e]at h;simp only[yq,if_neg l]at n;simp only[PHeap.set,if_neg e]at j;simp only[PHeap.set,if_neg l]at a;exact f.apart id k g j a h n
 ·by_cases e:id=d
  ·subst e;simp only[yq,if_true]at a;rcases m.own g a with h|h
   ·have:=f.zlt g hz;omega
   ·exact f.nz _ g h.1 h.2 hz
  ·simp only[yq,if_neg e]at a;simp only[PHeap.set,if_neg e]at j;exact f.nz id g j a hz
end
end
def V0:Nm->Value:=λ_=>undef
inductive NoP:PV->Prop
 |u (v:Value):NoP (.u v)
 |agg (cs:List PV) (h:∀c∈cs,NoP c):NoP (.agg cs)
 |tup (cs:List PV) (h:∀c∈cs,NoP c):NoP (.tup cs)
 |sl (k:Nat) (xs:List PV) (h:∀c∈xs,NoP c):NoP (.sl k xs)
 |fr (t:TypeId) (k:Nat) (xs:List PV) (h:∀c∈xs,NoP c):NoP (.fr t k xs)
 |rp (cs:List PV) (h:∀c∈cs,NoP c):NoP (.rp cs)
 |fn (f:Fn) (a b:List PV) (ha:∀c∈a,NoP c) (hb:∀c∈b,NoP c):NoP (.fn f a b)
theorem NoP.cell{p c:PV}(h:NoP p)(d:c∈p.cells):NoP c:=by
 cases h with
 |agg cs h=>exact h c d
 |u v=>simp[PV.cells]at d;subst d;exact .u v
 |tup cs h=>simp[PV.cells]at d;subst d;exact .tup cs h
 |sl k e h=>simp[PV.cells]at d;subst d;exact .sl k e h
 |fr t k e h=>simp[PV.cells]at d;subst d;exact .fr t k e h
 |rp cs h=>simp[PV.cells]at d;subst d;exact .rp cs h
 |fn f a b g i=>simp[PV.cells]at d;subst d;exact .fn f a b g i
theorem Rp.noP{Z C:ZM}{H P:PHeap}{V V':Nm->Value}{w:World}{p:PV}{v:Value}(h:Rp Z H V w p v)(l:NoP p)(hz:∀b,b<w.heap.size->¬PZ Z H V b->¬PZ C P V' b)(hm:C.m<=Z.m:=by exact wcq _):Rp C P V' w p v:=by
 induction h with
 |u v=>exact .u v
 |unk v=>cases l
 |agg cs N D h r=>
  cases l with
  |agg _ q=>exact .agg cs N D λi p v d j=>r i p v d j (q p (wck d))
 |tup cs N D h r=>
  cases l with
  |tup _ q=>exact .tup cs N D λi p v d j=>r i p v d j (q p (wck d))
 |nil k a c=>exact .nil k a c
 |sl k O b o c g G z e n d j r=>
  cases l with
  |sl _ _ q=>exact .sl k O b o c g G z (hz b n e) n d λi p s=>r i p s (by
    obtain⟨y,I,x⟩:=wds.1 (wck s);exact(q y I).cell x)
 |fr t k O v A G Q e d j r=>
  cases l with
  |fr _ _ _ q=>exact .fr t k O v A G (Yy Q hm λ_ _ _=>rfl) (λb n=>hz b (zbs Q n).2 (e b n)) d λi p u s T=>r i p u s T (by
    obtain⟨y,I,x⟩:=wds.1 (wck s);exact(q y I).cell x)
 |rp cs b o g e n d j r=>
  cases l with
  |rp _ q=>exact .rp cs b o g (hz b n e) n d λi p s=>r i p s (q p (wck s))
 |ps id B v R h=>cases l
 |qs id M k B v R h=>cases l
 |pp id M B v R h=>cases l
 |fn f a b U vb E F W n K L=>
  cases l with
  |fn _ _ _ S cb=>exact .fn f a b U vb E F (λi p v d j=>K i p v d j (S p (wck d))) (λi p v d j=>L i p v d j (cb p (wck d)))
inductive Sc:PV->Prop
 |u (v:Value):Sc (.u v)
 |agg (cs:List PV) (h:∀c∈cs,Sc c):Sc (.agg cs)
 |tup (cs:List PV) (h:∀c∈cs,Sc c):Sc (.tup cs)
theorem Rp.sc{Z n:ZM}{H m:PHeap}{V V':Nm->Value}{w w':World}{p:PV}{v:Value}(h:Rp Z H V w p v)(d:Sc p):Rp n m V' w' p v:=by
 induction h with
 |u v=>exact .u v
 |agg cs l g h j=>
  cases d with
  |agg _ f=>exact .agg cs l g λi p v b e=>j i p v b e (f p (wck b))
 |tup cs l g h j=>
  cases d with
  |tup _ f=>exact .tup cs l g λi p v b e=>j i p v b e (f p (wck b))
 |nil k a c=>cases d
 |_=>cases d
def View(H:PHeap)(p q:PV):Prop:=∀(P:Program)(W:Env)(V:Nm->Value)(w:World),HRel P W H V w->∀v,Rp W.Z H V w p v->Rp W.Z PHeap.empty V0 w q v
theorem Qz{Z:ZM}{b:Nat}:PZ Z PHeap.empty V0 b↔Z b:=by
 constructor
 ·rintro(h|⟨id,h,_⟩)
  ·exact h
  ·simp[PHeap.empty]at h
 ·exact .inl
theorem HRel.empty{P:Program}{W:Env}{w:World}(a:Below W.w.heap.size W.w w)(c:∀i,Rp W.Z PHeap.empty V0 w (W.G i) (W.gv i))(hz:∀b,W.Z b->b<w.heap.size):HRel P W PHeap.empty V0 w:=
 ⟨a,λid e h=>by simp[PHeap.empty]at h,c,λid d g h=>by simp[PHeap.empty]at h,hz,λid b h=>by simp[PHeap.empty]at h⟩
theorem View.noP{H:PHeap}{p:PV}(h:NoP p):View H p p:=λP W V w d v c=>c.noP h λb _ hz a=>hz (.inl (Qz.1 a))
theorem View.agg{H:PHeap}{cs ds:List PV}(k:cs.length=ds.length)(h:∀(i:Nat)(p q:PV),cs[i]?=some p->ds[i]?=some q->View H p q):View H (.agg cs) (.agg ds):=λP W V w g v j=>by
 cases j with
 |agg _ m e d=>
  refine .agg _ _ (by omega) λi q v a c=>?_;have f:=(wcg.1 a).1;have b:=wcf (l:=cs) (i:=i) (by omega);exact h i _ _ b a P W V w g v (d i _ v b c)
theorem View.tup{H:PHeap}{cs ds:List PV}(k:cs.length=ds.length)(h:∀(i:Nat)(p q:PV),cs[i]?=some p->ds[i]?=some q->View H p q):View H (.tup cs) (.tup ds):=λP W V w g v j=>by
 cases j with
 |tup _ m e d=>
  refine .tup _ _ (by omega) λi q v a c=>?_;have f:=(wcg.1 a).1;have b:=wcf (l:=cs) (i:=i) (by omega);exact h i _ _ b a P W V w g v (d i _ v b c)
theorem wa2{P:Program}{W:Env}{H:PHeap}{V:Nm->Value}{w:World}(c:HRel P W H V w){id:Nm}{b:Nat}(d:(H id).body.isSome=true)(a:qf (V id)=some b):¬W.Z b:=c.nz id b d a
theorem View.row{H:PHeap}{id:Nm}{ver:Nat}{t:TypeId}{k n:Nat}{cs:List PV}(R:Jf H id ver=some (t,k,n,cs))(xs:List PV)(I:xs.length=n)(K:∀y∈xs,y.cells.length=k)
  (h:∀(i:Nat)(p q:PV),cs[i]?=some p->(xs.flatMap PV.cells)[i]?=some q->View H p q):View H (.ps id ver) (.sl k xs):=λP W V w B v U=>by
 obtain⟨r,D⟩:=zq R;cases U with
 |ps _ _ _ X Q=>
  have e:=Q (by rw[r];rfl) D;subst e;obtain⟨a,A,E,_⟩:=B.row id t k n cs r;have G:=A.1;have s:(xs.flatMap PV.cells).length=n*k:=by
   have:∀(f:List PV),(∀y∈f,y.cells.length=k)->(f.flatMap PV.cells).length=f.length*k:=by
    intro f;induction f with
    |nil=>intro _;simp
    |cons y f J=>intro L;rw[wdd,wcu,J (λz hz=>L z (by simp[hz])),L y (by simp),wdy,wd6];omega
   rw[this xs K,I]
  rcases A.2 with⟨e,T⟩|⟨g,m,M,e,hg,x,F,_,_,C⟩
  ·have Y:xs=[]:=wde (by omega);rw[e,Y];exact .nil _ _ _
  ·have j:qf (V id)=some g:=by rw[e];rfl
   have hz:¬PZ W.Z PHeap.empty V0 g:=λhz=>wa2 B (by rw[r];rfl) j (Qz.1 hz);have b:∀(i:Nat)(q:PV),(xs.flatMap PV.cells)[i]?=some q->∃u,a[i]?=some u/\w.cell? ⟨g,0+i,none⟩=some u/\Rp W.Z PHeap.empty V0 w q u:=λi q d=>by
    have S:=(wcg.1 d).1;have c:i<a.length:=by omega
    have l:i<cs.length:=by rw[E.1];exact c
    refine⟨a[i],wcf c,?_,h i _ q (wcf l) d P W V w B _ (E.2 i _ _ (wcf l) (wcf c))⟩;have:=A.cells (g:=g) (by rw[e];rfl) i _ (wcf c);rwa [Jj]at this
   have:=Rp.sl (Z:=W.Z) (H:=PHeap.empty) (V:=V0) (w:=w) k xs g 0 m (λi=>(a[i]?).getD undef) K (by omega) hz (wdh.1 x).1 (λi q d=>by
    obtain⟨u,o,N,_⟩:=b i q d;rw[o];exact N) (λi q d=>by
    obtain⟨u,o,_,O⟩:=b i q d;simp only[o,wda];exact O)
   rw[I]at this;rw[e];exact this
theorem View.pp{H:PHeap}{id:Nm}{off ver:Nat}{cs ds:List PV}(m:qg H id ver=some cs)(y:cs.length=off+ds.length)(h:∀(i:Nat)(p q:PV),cs[off+i]?=some p->ds[i]?=some q->View H p q):View H (.pp id off ver) (.rp ds):=λP W V w d v t=>by
 obtain⟨e,n⟩:=Jb m;cases t with
 |pp _ _ _ _ x r=>
  obtain⟨g,f,rfl⟩:=r e n;obtain⟨_,_,o⟩:=z68 d m f;have a:∀(i:Nat)(q:PV),ds[i]?=some q->∃u,w.cell? ⟨g,zc5 (V id)+off+i,none⟩=some u/\Rp W.Z PHeap.empty V0 w q u:=λi q b=>by
   have s:=(wcg.1 b).1;have k:=wcf (l:=cs) (i:=off+i) (by omega);obtain⟨u,c,j⟩:=o _ _ k;exact⟨u,by rw[we0];exact c,h i _ q k b P W V w d u j⟩
  refine .rp ds g (zc5 (V id)+off) (λi=>(w.cell? ⟨g,zc5 (V id)+off+i,none⟩).getD undef) (λhz=>wa2 d e f (Qz.1 hz)) (d.own_lt e f).2 (λi q b=>?_) (λi q b=>?_)
  ·obtain⟨u,c,_⟩:=a i q b;simp[c]
  ·obtain⟨u,c,j⟩:=a i q b;simp only[c,wda];exact j
def ViewL(H:PHeap)(ps qs:List PV):Prop:=ps.length=qs.length/\∀(i:Nat)(p q:PV),ps[i]?=some p->qs[i]?=some q->View H p q
theorem ViewL.nil(H:PHeap):ViewL H [] []:=⟨rfl,λi p q h=>by simp at h⟩
theorem ViewL.cons{H:PHeap}{p q:PV}{ps qs:List PV}(h:View H p q)(e:ViewL H ps qs):ViewL H (p::ps) (q::qs):=⟨by simp[e.1],λi a b c d=>by
 cases i with
 |zero=>simp at c d;subst c d;exact h
 |succ i=>exact e.2 i a b (by simpa using c) (by simpa using d)⟩
def PCall(P:Program)(f:FuncId)(a:List PV)(R:PV->Prop):Prop:=
 ∀(Z:ZM)(w:World)(c:List Value),(∀b,Z b->b<w.heap.size)->Z.m<=w.heap.size->RpL Z PHeap.empty V0 w a c ->
  Calls P f c.toArray w (λe d=>∃v p,e=.returned v/\R p/\NoP p/\Rp Z PHeap.empty V0 d p v/\Below w.heap.size w d)
def z88(P:Program)(f:FuncId)(a:List PV)(t:TypeId)(k:Nat)(R:Nat->List Value->Prop):Prop:=
 ∀(w:World)(b:List Value),RpL ⟨λ_=>False,0⟩ PHeap.empty V0 w a b ->
  Calls P f b.toArray w (λe c=>∃v n us,e=.returned v/\R n us/\c.ownsRow w.heap.size t k v n us/\(∀u∈us,u.oneCell'=true)/\Below w.heap.size w c)
section
variable{P:Program}{W:Env}{n:Nat}{H:PHeap}{F:PFrame}
def PE(P:Program)(W:Env)(n:Nat)(o:Oper)(F:PFrame)(H:PHeap)(k:PV->PHeap->Prop):Prop:=
 ∀(V:Nm->Value)(a:Act)(w:World),Rel P W n F H V a w->o.wp P a w (λd e=>∃p b c,k p b/\Rel P W n (F.put o.dst p) b c d e) (λ_ _ _=>False)
theorem wau{o:Oper}{p:PV}{k:PV->PHeap->Prop}(d:Y4 n o)(h:PQ P W o F H p)(f:k p H):PE P W n o F H k:=λV a w b=>by
 have:=h V a w b.heap λt _=>b.slot t;exact Oper.wp_mono (λi j⟨v,e,g,c⟩=>⟨p,H,V,f,by rw[e];exact b.put c o.dst d g⟩) this
theorem zj2{o:Oper}{a:Act}{w:World}{f:FuncId}{args:Array Value}{K:Act->World->Prop}{Q:Exit->Act->World->Prop}(h:(execOp a.eval o).run P w=.ok (.enter f args) w)(g:Calls P f args w (λe b=>∃v,e=.returned v/\K (a.put o.dst v) b)):o.wp P a w K Q:=by
 unfold Oper.wp;rw[h];exact g.mono λe b⟨v,c,d⟩=>by subst c;exact d
def zb2(F:PFrame)(c:Call):Option (FuncId×List PV):=
 match c.callee with
 |.value x=>
  match evP F x with
  |.fn (.func f) a b=>some (f,a++c.args.toList.map (evP F)++b)
  |_=>none
 |_=>none
def V9(P:Program)(f:FuncId):Bool:=match P.funcs[f]? with
 | some fn => fn.body.isSome && !(fn.name == "runtime.NumGoroutine")
 |none=>false
theorem zbx{V:Nm->Value}{a:Act}{w:World}{o:Oper}{c:Call}(G:o.op=.call c){f:FuncId}{s:List PV}(l:zb2 F c=some (f,s))(t:V9 P f=true)(D:∀x∈o.op.operands,Rp W.Z H V w (evP F x) (a.eval x)):
  ∃K:List Value,(execOp a.eval o).run P w=.ok (.enter f K.toArray) w/\RpL W.Z H V w s K:=by
 obtain⟨d,h,n⟩:=c;rw[G]at D;unfold zb2 at l;cases d with
 |builtin b=>cases l
 |invoke r m=>cases l
 |value x=>
  simp only at l;split at l
  ·rename_i g L cb N;cases l;have e:=D x (by simp[Op.operands,Call.operands]);have u:=RpL.eval (F:=F) (a:=a) h.toList λy Q=>D y (by simp[Op.operands,Call.operands];right;simpa using Q);rw[N]at e;generalize O:a.eval x=v at e;cases e with
   |fn _ _ _ I vb B C M z=>
    refine⟨I.toList++h.toList.map a.eval++vb.toList,?_,?_⟩
    ·unfold V9 at t;split at t
     ·rename_i fn A;simp only[wcl,weg]at t;have z:fn.body.isNone=false:=by cases T:fn.body<;>simp_all
      simp only[execOp,G,resolve,O,Deferred.ofValue,Sem.run_bind,Sem.run_pure,Result.andThen_ok,invoke,callFunc,run_program,A,t.2,z];simp
     ·cases t
    ·have R:RpL W.Z H V w L I.toList:=⟨by simpa using B,λi p v j k=>M i p v j (by simpa using k)⟩
     have S:RpL W.Z H V w cb vb.toList:=⟨by simpa using C,λi p v j k=>z i p v j (by simpa using k)⟩
     have q:∀{a b:List PV}{x y:List Value},RpL W.Z H V w a x->RpL W.Z H V w b y->RpL W.Z H V w (a++b) (x++y):=λ{a b x y}e u=>⟨by simp[e.1,u.1],λi p v j k=>by
      by_cases E:i<a.length
      ·rw[wcr E]at j;rw[wcr (by rw[<- e.1];exact E)]at k;exact e.2 i p v j k
      ·rw[wct (by omega)]at j;rw[wct (by rw[<- e.1];omega),<- e.1]at k;exact u.2 _ p v j k⟩
     exact q (q R u) S
  ·cases l
theorem RpL.view{V:Nm->Value}{w:World}(f:HRel P W H V w){ps qs:List PV}{vs:List Value}(h:RpL W.Z H V w ps vs)(a:ViewL H ps qs):RpL W.Z PHeap.empty V0 w qs vs:=⟨by rw[<- a.1];exact h.1,λi q v b d=>by
 have e:=(wcg.1 b).1;have c:=wcf (l:=ps) (i:=i) (by have:=a.1;omega);exact a.2 i _ q c b P W V w f v (h.2 i _ v c d)⟩
theorem wa0{V:Nm->Value}{w:World}(a:HRel P W H V w):∀b,W.Z b->b<w.heap.size:=a.zlt
theorem wa7{V:Nm->Value}{w:World}(a:HRel P W H V w):W.Z.m<=w.heap.size:=wdk W.hm a.below.size
theorem wb7{o:Oper}{c:Call}{p0:PV}{b qs:List PV}{f:FuncId}(s:o.op=.call c)(g:zb2 F c=some (f,b))(r:V9 P f=true)(y:ViewL H b qs)(n:PCall P f qs (· = p0))(u:Sc p0):PQ P W o F H p0:=λV a w d z=>by
 obtain⟨A,q,l⟩:=zbx (P:=P) (W:=W) (H:=H) (V:=V) (a:=a) (w:=w) s g r λx h=>Rp.eval (P:=P) x λt g=>z t (by rw[<- g];exact h);exact zj2 q ((n W.Z w A (wa0 d) (wa7 d) (l.view d y)).mono λe B⟨v,p,i,j,_,k,m⟩=>⟨v,i,v,rfl,by subst j;exact k.sc u,m⟩)
theorem wb6{o:Oper}{c:Call}{p0:PV}{d qs:List PV}{f:FuncId}(I:o.op=.call c)(u:zb2 F c=some (f,d))(E:V9 P f=true)(K:ViewL PHeap.empty d qs)(G:∀p∈d,NoP p)(C:PCall P f qs (· = p0)):PQ P W o F H p0:=λV a w n L=>by
 obtain⟨z,D,A⟩:=zbx (P:=P) (W:=W) (H:=H) (V:=V) (a:=a) (w:=w) I u E λx y=>Rp.eval (P:=P) x λt u=>L t (by rw[<- u];exact y);have l:∀b,PZ W.Z H V b->b<w.heap.size:=λb k=>by
  rcases k with k|⟨id,h,j⟩
  ·exact wa0 n b k
  ·exact(n.own_lt h j).2
 have q:RpL ⟨PZ W.Z H V,W.Z.m⟩ PHeap.empty V0 w d z:=⟨A.1,λi p v h j=>(A.2 i p v h j).noP (G p (wck h)) λb _ hz g=>hz (Qz.1 g)⟩
 have r:RpL ⟨PZ W.Z H V,W.Z.m⟩ PHeap.empty V0 w qs z:=RpL.view (P:=P) (W:={ w:=w,Z:=⟨PZ W.Z H V,W.Z.m⟩,hm:=wa7 n }) (V:=V0) (HRel.empty (Below.refl _ _) (λi=> .unk _) l) q K;exact zj2 D ((C ⟨PZ W.Z H V,W.Z.m⟩ w z l (wa7 n) r).mono λe M⟨v,p,h,j,s,B,k⟩=>⟨v,h,v,rfl,by subst j;exact B.noP s λb _ hz g=>hz (Qz.2 g),k⟩)
theorem Rel.turn{V:Nm->Value}{a:Act}{w w':World}(b:Rel P W n F H V a w){id:Nm}{b':zlj}{v0:Value}(c:Turn W H V w id b' v0 w')(h:∀f,b'.body=some f->BodyRel W (H.set id b') (yq V id v0) w' v0 f)(d:Option Nat)(i:∀t,d=some t->t<n){p:PV}{v:Value}(j:Rp W.Z (H.set id b') (yq V id v0) w' p v):
  Rel P W n (F.put d p) (H.set id b') (yq V id v0) (a.put d v) w':=by
 refine⟨c.heap b.heap h,?_,?_,λt=>?_⟩
 ·cases d<;>simp[Act.put,b.size]
 ·cases d<;>simp[Act.put,b.defers]
 ·cases d with
  |none=>simpa [Act.put,PFrame.put]using c.rp (b.slot t)
  |some d=>
   by_cases e:d=t
   ·subst e;have:=i d rfl;simpa [Act.put,PFrame.put,b.size,this]using j
   ·have g:¬(some d=some t):=by simpa using e
    simp only[PFrame.put,if_neg g];have:=c.rp (b.slot t);simpa [Act.put,wfg e]using this
theorem wal{V:Nm->Value}{w w':World}(d:HRel P W H V w)(a:Below w.heap.size w w'){id:Nm}{b':zlj}(f:b'.ver=(H id).ver+1){v0:Value}(h0:∀g,qf v0=some g->w.heap.size<=g):Turn W H V w id b' v0 w':=
 ⟨d.below.trans (a.mono d.below.size),a.size,λb c _=>a.block b c,λg e=> .inl (h0 g e),.inl (by omega)⟩
theorem wbp{o:Oper}{c:Call}{j qs:List PV}{f:FuncId}{t:TypeId}{E d:Nat}{id:Nm}{R:Nat->List Value->Prop}{k:PV->PHeap->Prop}(T:o.dst=some d)(I:d<n)(Z:o.op=.call c)(D:zb2 F c=some (f,j))(X:V9 P f=true)(hv:ViewL H j qs)(S:z88 P f qs t E R)
  (Y:∀m us,R m us->us.length=m*E->k (.ps id ((H id).ver+1)) (H.set id ⟨(H id).ver+1,some (.row t E m (us.map .u))⟩)):PE P W n o F H k:=λV a w C=>by
 obtain⟨vs,U,Q⟩:=zbx (P:=P) (W:=W) (H:=H) (V:=V) (a:=a) (w:=w) Z D X λx a2=>Rp.eval (P:=P) x λt D=>C.slot t;have z:=Q.view C.heap hv;refine zj2 U ((S w vs ⟨z.1,λi p v s y=>(z.2 i p v s y).mono (λb M L=>⟨λJ=>(Qz.1 J).elim,L,rfl⟩) (wem _) (λ_=>wcq _) (λid a3 _ s y=>⟨s,y,rfl⟩)⟩).mono λe w'⟨v,m,us,s,y,h,N,M⟩=>⟨v,s,.ps id ((H id).ver+1),_,yq V id v,Y m us y h.1,?_⟩);have a0:=C.heap.below.size;have B:w'.ownsRow W.w.heap.size t E v m us:=⟨h.1,by
  rcases h.2 with O|⟨g,l,q,e,A,r⟩
  ·exact .inl O
  ·exact .inr ⟨g,l,q,e,by omega,r⟩⟩
 refine C.turn (wal C.heap M rfl λg A=>?_) (λbd G=>?_) o.dst (λt D=>by rw[T]at D;cases D;exact I) ?_
 ·rcases h.2 with⟨e,_⟩|⟨g',l,q,e,K,_⟩
  ·rw[e]at A;cases A
  ·rw[e]at A;cases A;exact K
 ·cases G;exact⟨us,B,RpL.us us,N⟩
 ·refine .ps _ _ _ ?_ λ_ _=>?_
  ·simp[PHeap.set]
  ·simp[yq]
end
section
variable{P:Program}{W:Env}{n:Nat}{H:PHeap}{F:PFrame}
theorem yv{o:Oper}{a:Act}{w w':World}{v:Value}{K:Act->World->Prop}{Q:Exit->Act->World->Prop}(b:(execOp a.eval o).run P w=.ok (.value v) w')(h:K (a.put o.dst v) w'):o.wp P a w K Q:=by
 unfold Oper.wp;rw[b];exact h
theorem Rel.newBox{V:Nm->Value}{a:Act}{w:World}(e:Rel P W n F H V a w){d:Nat}{id:Nm}(j:d<n){t:TypeId}{cs:List PV}{us:Array Value}(h:RpL W.Z H V w cs us.toList)(f:∀v∈us.toList,v.oneCell'=true):
  Rel P W n (F.put (some d) (.pp id 0 ((H id).ver+1))) (H.set id ⟨(H id).ver+1,some (.box t cs)⟩) (yq V id (.pointer (some ⟨w.heap.size,0,none⟩))) (a.put (some d) (.pointer (some ⟨w.heap.size,0,none⟩))) (w.alloc (.cells us t)):=by
 have i:Below w.heap.size w (w.alloc (.cells us t)):=(Below.refl _ _).alloc (wcq _) _;have b:Turn W H V w id ⟨(H id).ver+1,some (.box t cs)⟩ (.pointer (some ⟨w.heap.size,0,none⟩)) (w.alloc (.cells us t)):=wal e.heap i rfl λg k=>by cases k;exact wcq _
 refine e.turn b (λm c=>?_) (some d) (λt b=>by cases b;exact j) ?_
 ·cases c;exact⟨_,us,rfl,e.heap.below.size,heap_alloc_new w _,h.mono λp v l=>b.rp l,f⟩
 ·refine .pp _ _ _ _ ?_ λ_ _=>⟨w.heap.size,?_,by simp[yq,zc5]⟩
  ·simp[PHeap.set]
  ·simp[yq,qf]
def zw9(P:Program)(t:TypeId):Option (List Value):=((P.info? t).bind (·.zero)).map λz=>z.cells.toList
theorem PE.alloc{o:Oper}{t:TypeId}{d:Nat}{id:Nm}{us:List Value}{k:PV->PHeap->Prop}(l:o.op=.alloc t)(i:o.dst=some d)(c:d<n)(hz:zw9 P t=some us)(h:us.all Value.oneCell'=true)(j:k (.pp id 0 ((H id).ver+1)) (H.set id ⟨(H id).ver+1,some (.box t (us.map .u))⟩)):PE P W n o F H k:=λV a w m=>by
 obtain⟨z,g,rfl⟩:=wcs.1 hz;obtain⟨p,e,f⟩:=wdm.1 g;have b:(execOp a.eval o).run P w=.ok (.value (.pointer (some ⟨w.heap.size,0,none⟩))) (w.alloc (.cells z.cells t)):=by
  simp only[execOp,l];simp[Instr.alloc,zeroValue,typeInfo,e,f,newVar,newRow]
 refine yv b ⟨_,_,yq V id (.pointer (some ⟨w.heap.size,0,none⟩)),j,?_⟩;rw[i];exact m.newBox c (RpL.us _) (wdx.1 h)
theorem PE.box{o:Oper}{t:TypeId}{x:Operand}{d:Nat}{id:Nm}{k:PV->PHeap->Prop}(l:o.op=.box t x)(i:o.dst=some d)(c:d<n)(e:okC H (evP F x)=true)(j:k (.pp id 0 ((H id).ver+1)) (H.set id ⟨(H id).ver+1,some (.box t (evP F x).cells)⟩)):PE P W n o F H k:=λV a w f=>by
 obtain⟨h,g⟩:=(Rp.eval (P:=P) (F:=F) (a:=a) x λt _=>f.slot t).cells f.heap e;have b:(execOp a.eval o).run P w=.ok (.value (.pointer (some ⟨w.heap.size,0,none⟩))) (w.alloc (.cells (a.eval x).cells t)):=by
  simp only[execOp,l];simp[Instr.box,newVar,newRow]
 refine yv b ⟨_,_,yq V id (.pointer (some ⟨w.heap.size,0,none⟩)),j,?_⟩;rw[i];exact f.newBox c h g
def z9y(off:Nat)(ps:List PV):PBody->PBody
 |.row t k n cs => .row t k n (setMany cs off ps)
 |.box t cs => .box t (setMany cs off ps)
 |b=>b
theorem z5b{α:Type}(cs ps:List α)(off m:Nat)(h:off+ps.length<=m)(hm:m<=cs.length):(setMany cs off ps).take m=setMany (cs.take m) off ps:=by
 apply wee;intro i;rw[wd7,V7 _ _ _ (by omega),V7 _ _ _ (by simp;omega),wd7];by_cases a:i<m
 ·simp[a]
 ·rw[if_neg a,if_neg (by omega),if_neg a]
theorem z4c{w:World}{t:TypeId}{ag:Bool}{k g off:Nat}{a:Array Value}{T:TypeId}{v:Value}(i:asz P t=some (ag,k))(h:w.heap[g]?=some (.cells a T (0,0)))(d:v.cells.size=k)(c:off+k<=a.size)(e:∀u∈v.cells.toList,u.oneCell'=true):
  (Instr.storeAt t (.pointer (some ⟨g,off,none⟩)) v).run P w=.ok () (w.setRow g (setMany a.toList off v.cells.toList).toArray):=by
 have f:=(zjv i w).2;have b:=run_storeCells_at (P:=P) g off T v.cells.toList 0 a w h (by simp[d];omega) e;simp only[Instr.storeAt,Instr.sureAddr,storeVar,Sem.run_bind,Sem.run_pure,Result.andThen_ok,f,d,ne_eq,not_true_eq_false,if_false];simp only[wd5]at b;simpa [setMany]using b
theorem PE.store{o:Oper}{t:TypeId}{x y:Operand}{id:Nm}{off ver k:Nat}{ag:Bool}{cs:List PV}{bd:PBody}{K:PV->PHeap->Prop}(ho:o.op=.store t x y)(hd:Y4 n o)(hx:evP F x=.pp id off ver)(j:qg H id ver=some cs)(ht:asz P t=some (ag,k))(b6:okC H (evP F y)=true)(a4:(evP F y).cells.length=k)(c0:off+k<=cs.length)(i:(H id).body=some bd)
  (hk:K (.u undef) (H.set id ⟨ver,some (z9y off (evP F y).cells bd)⟩)) (hq:∀t k n cs,bd ≠ .que t k n cs:=by intro _ _ _ _ h;cases h):PE P W n o F H K:=λV a w B=>by
 obtain⟨hR,h1⟩:=(Rp.eval (P:=P) (F:=F) (a:=a) y λt _=>B.slot t).cells B.heap b6;have X:=Rp.eval (P:=P) (F:=F) (a:=a) (Z:=W.Z) (H:=H) (V:=V) (w:=w) x λt _=>B.slot t;obtain⟨J,a2⟩:=Jb j;rw[hx]at X;generalize hv:a.eval x=v at X;cases X with
 |pp _ _ _ _ d3 hh=>
  obtain⟨g,G,rfl⟩:=hh J a2;have h0:zc5 (V id)=0:=by obtain⟨vs,h1,_⟩:=B.heap.body id bd i;exact h1.off0 hq
  rw[h0,wdo]at hv;have C:(a.eval y).cells.size=k:=by rw[<- a4];have:=hR.1;simpa using this.symm
  -- the block, and what it is behind the store
  have b8:∃c T,w.heap[g]?=some (.cells c T (0,0))/\off+k<=c.size/\W.w.heap.size<=g /\
    ∀H' V' w',(∀p v,Rp W.Z H V w p v->Rp W.Z H' V' w' p v)->w'.heap[g]?=some (.cells (setMany c.toList off (a.eval y).cells.toList).toArray T (0,0))->BodyRel W H' V' w' (V id) (z9y off (evP F y).cells bd):=by
   have I:=(B.heap.own_lt J G).1;cases bd with
   |row T kk m d=>
    have N:d=cs:=by unfold qg at j;rw[i]at j;simp only[a2,if_true,wdn]at j;exact j
    subst N;obtain⟨A,R,l,L⟩:=B.heap.row id T kk m d i;rcases R.2 with⟨e,_⟩|⟨Y,b1,c,e,q,Q,D,a5,r,S⟩
    ·rw[e]at G;cases G
    ·have:Y=g:=by rw[e]at G;simpa [qf]using G
     subst this;have b7:d.length=A.length:=l.1;have c8:m*kk=A.length:=R.1.symm;have b5:m*kk<=c.size:=by rw[r];exact wes _ D
     refine⟨c,T,Q,by omega,I,λH' V' w' hm U=>?_⟩;refine⟨setMany A off (a.eval y).cells.toList,⟨by rw[Q0 _ _ _ (by simp[C];omega)];exact R.1,.inr ⟨Y,b1,_,e,q,U,D,a5,by simp[Q0 _ _ _ (show off+(a.eval y).cells.toList.length<=c.toList.length by simp[C];omega),r],?_⟩⟩,?_,?_⟩
     ·rw[z5b _ _ _ _ (by simp[C];omega) (by simpa using b5),S]
     ·have:=RpL.setMany (W:=W) (H:=H) l hR (off:=off) (by omega);exact this.mono hm
     ·intro u z;rcases zfo z with z|z
      ·exact L u z
      ·exact h1 u z
   |box T d=>
    have N:d=cs:=by unfold qg at j;rw[i]at j;simp only[a2,if_true,wdn]at j;exact j
    subst N;obtain⟨Y,arr,e,q,Q,l,L⟩:=B.heap.box id T d i;have:Y=g:=by rw[e]at G;simpa [qf]using G
    subst this;have b7:d.length=arr.size:=by have:=l.1;simpa using this
    refine⟨arr,T,Q,by omega,I,λH' V' w' hm U=>?_⟩;refine⟨Y,_,e,q,U,?_,?_⟩
    ·simp only[List.toList_toArray];exact(RpL.setMany (W:=W) (H:=H) l hR (off:=off) (by omega)).mono hm
    ·intro u z;rcases zfo z with z|z
     ·exact L u z
     ·exact h1 u z
   |raw p cs φ=>unfold qg at j;rw[i]at j;cases j
   |que t k n cs=>exact absurd rfl (hq _ _ _ _)
  obtain⟨c,T,E,O,c4,M⟩:=b8;have a6:=z4c (P:=P) (off:=off) ht E C O h1;have s:Turn W H V w id ⟨ver,some (z9y off (evP F y).cells bd)⟩ (V id) (w.setRow g (setMany c.toList off (a.eval y).cells.toList).toArray):=by
   have f:∀b,b≠g->(w.setRow g (setMany c.toList off (a.eval y).cells.toList).toArray).heap[b]?=w.heap[b]?:=λb hb=>setRow_other w g b _ hb;refine⟨B.heap.below.trans ⟨rfl,rfl,rfl,by simp,λb hb=>f b (by omega)⟩,by simp,λb hb hn=>f b λe=>hn ⟨J,by rw[e];exact G⟩,λY q=> .inr ⟨J,q⟩,.inr ⟨a2.symm,rfl,J⟩⟩
  have:(execOp a.eval o).run P w=.ok .skip (w.setRow g (setMany c.toList off (a.eval y).cells.toList).toArray):=by
   simp[execOp,ho,hv,a6]
  unfold Oper.wp;rw[this];exact⟨.u undef,_,yq V id (V id),hk,B.turn s (λc3 a3=>by
   cases a3;exact M _ _ _ (λp v hp=>s.rp hp) (setRow_heap w g c _ T (0,0) E)) o.dst hd (.u _)⟩
def Jy(P:Program)(t:TypeId):Option (TypeId×Nat×Nat×Value):=
 match P.underlying t with
 |some (.slice e)=>
  match P.info? e with
  |some i=>match i.zero with
   |some z=>if z.cells.size=i.size/\0<i.size then some (e,i.size,i.bytes,z)else none
   |none=>none
  |none=>none
 |_=>none
theorem zbl{t e:TypeId}{k b:Nat}{z:Value}(h:Jy P t=some (e,k,b,z)):∃i,P.underlying t=some (.slice e)/\P.info? e=some i/\i.zero=some z/\i.size=k/\i.bytes=b/\z.cells.size=k/\0<k:=by
 unfold Jy at h;split at h
 ·rename_i f d;split at h
  ·rename_i i c;split at h
   ·rename_i g hz;split at h
    ·rename_i a;cases h;exact⟨i,d,c,hz,rfl,rfl,a.1,a.2⟩
    ·cases h
   ·cases h
  ·cases h
 ·cases h
theorem z1z{k:Nat}{places:List (Nat×Nat)}:∀(ps:List PV)(i:Nat)(cs:List PV),(∀p∈ps,p.cells.length=k/\okC H p=true)->(∀j,j<ps.length->places[i+j]?=some ((i+j)*k,k))->(i+ps.length)*k=cs.length ->
  zii H places cs ((List.range' i ps.length).zip ps)=some (cs.take (i*k)++ps.flatMap PV.cells)
 |[],i,cs,_,_,a=>by
  simp only[wfb,List.range'_zero,List.zip_nil_left,zii,wfx,wc7];rw[wd4 (by simp at a;omega)]
 |p::ps,i,cs,f,b,a=>by
  obtain⟨c,g⟩:=f p (by simp);have d:=b 0 (by simp);simp only[wd5]at d;have e:(i+(ps.length+1))*k=i*k+k+ps.length*k:=by rw[wd6,wd6];omega
  simp only[wdy]at a⊢;rw[e]at a;simp only[List.range'_succ,List.zip_cons_cons,zii,d];rw[if_pos ⟨c,by omega,g⟩,z1z ps (i+1) _ (λq h=>f q (by simp[h])) (λj l=>by have:=b (j+1) (by simp;omega);rwa [show i+(j+1)=i+1+j by omega]at this) (by rw[Q0 _ _ _ (by omega),<- a,wd6,wd6];omega)];congr 1;rw[wdd,<- wc6];congr 1;unfold setMany;rw[c,wd6,Nat.one_mul,wfn (by simp;omega),wd4 (by simp;omega)]
def zxf(H:PHeap)(k len:Nat)(ps:List (Nat×PV)):Bool:=decide (ps.map (·.1)=List.range len) && ps.all (λp=>decide (p.2.cells.length=k) && okC H p.2)
theorem zjh{V:Nm->Value}{w:World}(hr:HRel P W H V w){t e:TypeId}{k b len:Nat}{z:Value}(ht:Jy P t=some (e,k,b,z))(J:len*k<=16777216){ps:List (Nat×PV)}{vs:Array (Nat×Value)}(s:RpParts W.Z H V w ps vs.toList)(g:zxf H k len ps=true)(hz:z.cells.toList.all Value.oneCell'=true):
  ∃arr:Array Value,(Instr.buildSlice t len vs).run P w=.ok (.slice (some ⟨w.heap.size,0,none⟩) len len) (w.alloc (.cells arr e))/\RpL W.Z H V w ((ps.map (·.2)).flatMap PV.cells) arr.toList/\(∀v∈arr.toList,v.oneCell'=true)/\arr.size=len*k/\ps.length=len:=by
 obtain⟨i,hu,hi,U,rfl,rfl,a8,a1⟩:=zbl ht;simp only[zxf,wcl,wcy,wdx]at g;obtain⟨d,c⟩:=g;have a:ps.length=len:=by have:=congrArg List.length d;simpa using this
 have D:ps=(List.range' 0 (ps.map (·.2)).length).zip (ps.map (·.2)):=by
  rw[wcv,a,<- wfi,<- d];clear d c a s;induction ps with
  |nil=>rfl
  |cons p ps Y=>simp only[wc4,List.zip_cons_cons];rw[<- Y]
 let m:Array Value:=(Array.range (len*i.size)).map (z.cells[· % z.cells.size]!)
 have E:m.size=len*i.size:=by simp[m]
 have o:∀v∈m.toList,v.oneCell'=true:=λv hv=>by
  simp only[m,Array.toList_map,wcz]at hv;obtain⟨j,_,rfl⟩:=hv;have f:j % z.cells.size<z.cells.size:=Nat.mod_lt _ (by omega);rw[getElem!_pos z.cells _ f];rw[wdx]at hz;exact hz _ (by simp)
 have hf:zii H ((List.range len).map λj=>(j*i.size,i.size)) (m.toList.map .u) ps=some ((ps.map (·.2)).flatMap PV.cells):=by
  have:=z1z (H:=H) (k:=i.size) (places:=(List.range len).map λj=>(j*i.size,i.size)) (ps.map (·.2)) 0 (m.toList.map .u) (λp s=>by
   obtain⟨q,M,rfl⟩:=wcz.1 s;have:=c q M;simpa using this) (λj f=>by
   rw[wcv,a]at f;simp[f]) (by simp[E,a])
  rw[<- D]at this;simpa using this
 obtain⟨r,O,A,Q⟩:=zhn hr (place:=λj=>some (j*i.size,i.size)) (places:=(List.range len).map λj=>(j*i.size,i.size)) (λj x C=>by
  rw[wcp]at C;cases f:(List.range len)[j]? with
  |none=>rw[f]at C;cases C
  |some j'=>
   rw[f]at C;obtain⟨G,h2⟩:=wcg.1 f;have:j'=j:=by simpa using h2.symm
   subst this;simpa using C) ps vs.toList _ m _ s (RpL.us _) o hf
 have l:r.size=len*i.size:=by
  have G:=A.1;have:((ps.map (·.2)).flatMap PV.cells).length=len*i.size:=by
   have:∀(n:List PV),(∀y∈n,y.cells.length=i.size)->(n.flatMap PV.cells).length=n.length*i.size:=by
    intro n;induction n with
    |nil=>intro _;simp
    |cons y n Y=>intro F;rw[wdd,wcu,Y (λz hz=>F z (by simp[hz])),F y (by simp),wdy,wd6];omega
   rw[this _ (λy F=>by
    obtain⟨q,M,rfl⟩:=wcz.1 F;exact(c q M).1),wcv,a]
  rw[this]at G;simpa using G.symm
 refine⟨r,?_,A,Q,l,a⟩;have T:(zeroValue e).run P w=.ok z w:=by simp[zeroValue,typeInfo,hi,U]
 have B:(sizeOf e).run P w=.ok i.size w:=by simp[sizeOf,typeInfo,hi]
 have K:¬(len*i.size > 16777216):=by omega
 by_cases h0:len*i.size=0
 ·have I:len=0:=by rcases Nat.mul_eq_zero.1 h0 with h|h<;>omega
  subst I;have L:ps=[]:=wde a;have S:vs = #[]:=by apply Array.ext';have:=s.1;rw[L]at this;exact wde this.symm
  subst S;have N:r = #[]:=by apply Array.ext';exact wde (by simpa using l)
  subst N;unfold Instr.buildSlice;have R:Array.range 0 = #[]:=rfl;simp[run_underlying hu,B,newRow,Instr.fill,R]
 ·unfold Instr.buildSlice;simp only[run_underlying hu,B,Sem.run_bind,Result.andThen_ok,K,h0,if_false,T,Sem.run_ite,Sem.run_pure];have:Instr.fill (λX=>some (X*i.size,i.size)) ((Array.range (len*i.size)).map (z.cells[· % z.cells.size]!)) vs.toList=some r:=O;simp[this,newRow]
end
section
variable{P:Program}{W:Env}{n:Nat}{H:PHeap}{F:PFrame}
theorem RpParts.eval{V:Nm->Value}{w:World}{a:Act}(b:Array (Nat×Operand))(h:∀x∈b.toList,Rp W.Z H V w (evP F x.2) (a.eval x.2)):
  RpParts W.Z H V w (b.toList.map λx=>(x.1,evP F x.2)) (b.map λ(x:Nat×Operand)=>(x.1,a.eval x.2)).toList:=⟨by simp,λi p v c d=>by
 rw[wcp]at c;rw[Array.toList_map,wcp]at d;cases e:b.toList[i]? with
 |none=>rw[e]at c;cases c
 |some y=>
  rw[e]at c d;cases c;cases d;exact⟨rfl,h y (wck e)⟩⟩
theorem Rel.newRow{V:Nm->Value}{a:Act}{w w':World}(f:Rel P W n F H V a w){d:Nat}{id:Nm}(l:d<n){t:TypeId}{k m:Nat}{cs:List PV}{us:List Value}{v0:Value}(j:Below w.heap.size w w')(e:∀g,qf v0=some g->w.heap.size<=g)(o:w'.ownsRow W.w.heap.size t k v0 m us)
  (i:RpL W.Z H V w cs us) (h:∀v∈us,v.oneCell'=true) :
  Rel P W n (F.put (some d) (.ps id ((H id).ver+1))) (H.set id ⟨(H id).ver+1,some (.row t k m cs)⟩) (yq V id v0) (a.put (some d) v0) w':=by
 have b:Turn W H V w id ⟨(H id).ver+1,some (.row t k m cs)⟩ v0 w':=wal f.heap j rfl e;refine f.turn b (λr c=>?_) (some d) (λt b=>by cases b;exact l) ?_
 ·cases c;exact⟨us,o,i.mono λp v q=>b.rp q,h⟩
 ·refine .ps _ _ _ ?_ λ_ _=>?_
  ·simp[PHeap.set]
  ·simp[yq]
theorem PE.buildSlice{o:Oper}{t e:TypeId}{k b len d:Nat}{id:Nm}{z:Value}{c:Array (Nat×Operand)}{K:PV->PHeap->Prop}(C:o.op=.buildSlice t len c)(y:o.dst=some d)(p:d<n)(E:Jy P t=some (e,k,b,z))(hz:z.cells.toList.all Value.oneCell'=true)(h:len*k<=16777216)(j:len<=maxLen)
  (i:zxf H k len (c.toList.map λx=>(x.1,evP F x.2))=true) (B:K (.ps id ((H id).ver+1)) (H.set id ⟨(H id).ver+1,some (.row e k len ((c.toList.map λx=>evP F x.2).flatMap PV.cells))⟩)):PE P W n o F H K:=λV a w m=>by
 have D:=RpParts.eval (W:=W) (H:=H) (V:=V) (w:=w) (F:=F) (a:=a) c λx _=>Rp.eval (P:=P) x.2 λt _=>m.slot t;obtain⟨arr,l,u,s,f,r⟩:=zjh m.heap E h D i hz;have q:(execOp a.eval o).run P w=.ok (.value (.slice (some ⟨w.heap.size,0,none⟩) len len)) (w.alloc (.cells arr e)):=by
  simp[execOp,C,l]
 refine yv q ⟨_,_,yq V id (.slice (some ⟨w.heap.size,0,none⟩) len len),B,?_⟩;rw[y];have v:Below w.heap.size w (w.alloc (.cells arr e)):=(Below.refl _ _).alloc (wcq _) _;refine m.newRow (us:=arr.toList) p v (λg A=>by cases A;exact wcq _) ⟨by simp[f],.inr ⟨w.heap.size,len,arr,rfl,m.heap.below.size,heap_alloc_new w _,wcq _,j,f,by rw[wd4 (by simp[f])]⟩⟩ ?_ s;simpa [wd8,Function.comp_def]using u
theorem PQ.buildSlice{o:Oper}{t e:TypeId}{k b len:Nat}{z:Value}{c:Array (Nat×Operand)}(D:o.op=.buildSlice t len c)(A:Jy P t=some (e,k,b,z))(hz:z.cells.toList.all Value.oneCell'=true)(h:len*k<=16777216)
  (d:zxf H k len (c.toList.map λx=>(x.1,evP F x.2))=true):PQ P W o F H (.sl k (c.toList.map λx=>evP F x.2)):=λV a w v M=>by
 have I:=RpParts.eval (W:=W) (H:=H) (V:=V) (w:=w) (F:=F) (a:=a) c λx B=>Rp.eval (P:=P) x.2 λt A=>M t (by
  rw[D];simp only[Op.operands,List.mem_toArray,wcz];exact⟨x,B,A⟩)
 obtain⟨arr,l,m,O,L,j⟩:=zjh v A h I d hz;have r:(execOp a.eval o).run P w=.ok (.value (.slice (some ⟨w.heap.size,0,none⟩) len len)) (w.alloc (.cells arr e)):=by
  simp[execOp,D,l]
 have C:Below w.heap.size w (w.alloc (.cells arr e)):=(Below.refl _ _).alloc (wcq _) _;refine yv r ⟨_,rfl,?_,C⟩;have u:(c.toList.map λx=>(x.1,evP F x.2)).map (·.2)=c.toList.map λx=>evP F x.2:=by simp[wd8,Function.comp_def]
 rw[u]at m;have s:(c.toList.map λx=>evP F x.2).length=len:=by simpa using j
 simp only[zxf,wcl,wcy,wdx]at d;have:=Rp.sl (Z:=W.Z) (H:=H) (V:=V) (w:=w.alloc (.cells arr e)) k (c.toList.map λx=>evP F x.2) w.heap.size 0 len (λi=>(arr[i]?).getD undef) (λy N=>by
  obtain⟨q,K,rfl⟩:=wcz.1 N;exact(d.2 (q.1,evP F q.2) (wcz.2 ⟨q,K,rfl⟩)).1) (by omega) (λhz=>by
  rcases hz with hz|⟨id,E,G⟩
  ·have:=wa0 v _ hz;omega
  ·have:=(v.own_lt E G).2;omega) (by simp) (λi p n=>by
  have g:=(wcg.1 n).1;have f:i<arr.size:=Nat.lt_of_lt_of_eq g (m.1.trans Array.length_toList);rw[cell_of_row _ w.heap.size (0+i) arr e (0,0) (heap_alloc_new w _),wdo];simp[f]) (λi p n=>by
  have g:=(wcg.1 n).1;have f:i<arr.size:=Nat.lt_of_lt_of_eq g (m.1.trans Array.length_toList);have:=m.2 i p arr[i] n (by simp[f]);simp only[f,wdj,wda];exact this.grow C)
 rwa [s]at this
theorem PE.makeSlice{o:Oper}{t e:TypeId}{b d m:Nat}{id:Nm}{z:Value}{x y:Operand}{M N:IntKind}{K:PV->PHeap->Prop}(J:o.op=.makeSlice t x y)(S:o.dst=some d)(C:d<n)(ht:Jy P t=some (e,1,b,z))(l:z.oneCell'=true)
  (hx:evP F x=.u (.int M (m:Int))) (hy:evP F y=.u (.int N (m:Int))) (f:m<=maxLen) (r:b*m<=281474976710656) (Y:K (.ps id ((H id).ver+1)) (H.set id ⟨(H id).ver+1,some (.row e 1 m (List.replicate m (.u z)))⟩)):PE P W n o F H K:=λV a w s=>by
 obtain⟨i,hu,U,L,p,rfl,a4,O⟩:=zbl ht;have E:a.eval x=.int M m:=by
  have:=Rp.eval (P:=P) (F:=F) (a:=a) (Z:=W.Z) (H:=H) (V:=V) (w:=w) x λt _=>s.slot t;rw[hx]at this;generalize a.eval x=q at this;cases this;rfl
 have G:a.eval y=.int N m:=by
  have:=Rp.eval (P:=P) (F:=F) (a:=a) (Z:=W.Z) (H:=H) (V:=V) (w:=w) y λt _=>s.slot t;rw[hy]at this;generalize a.eval y=q at this;cases this;rfl
 have A:(m:Int)<=9223372036854775807:=by have:=f;simp[maxLen]at this;omega
 have B:(i.bytes:Int)*(m:Int)<=281474976710656:=by
  have h:((i.bytes*m:Nat):Int)<=281474976710656:=by omega
  rwa [Int.natCast_mul]at h
 have k:=run_make (P:=P) w t e i z hu U L M N m m (by omega) (Int.le_refl _) B A;simp only[wcx,p,wf1]at k;have D:(execOp a.eval o).run P w=.ok (.value (.slice (some ⟨w.heap.size,0,none⟩) m m)) (w.alloc (.cells (madeCells z.cells m) e)):=by
  simp[execOp,J,E,G,k]
 refine yv D ⟨_,_,yq V id (.slice (some ⟨w.heap.size,0,none⟩) m m),Y,?_⟩;rw[S];have R:Below w.heap.size w (w.alloc (.cells (madeCells z.cells m) e)):=(Below.refl _ _).alloc (wcq _) _;have I:z.cells = #[z]:=by cases z<;>first|rfl|simp[Value.oneCell']at l
 have c:(madeCells z.cells m).toList=List.replicate m z:=by
  rw[I];simp only[madeCells,Array.toList_map,Array.toList_range];apply wee;intro j;by_cases X:j<m<;>simp[X,Nat.mod_one]
 refine s.newRow (us:=List.replicate m z) C R (λg T=>by cases T;exact wcq _) ⟨by simp,.inr ⟨w.heap.size,m,_,rfl,s.heap.below.size,heap_alloc_new w _,wcq _,f,by simp[size_madeCells],by rw[c];simp⟩⟩ ?_ ?_
 ·have:=RpL.us (W:=W) (H:=H) (V:=V) (w:=w) (List.replicate m z);simpa using this
 ·intro v Q;rw[List.mem_replicate]at Q;rw[Q.2];exact l
end
section
variable{P:Program}{W:Env}{n:Nat}{H:PHeap}{F:PFrame}
def zxb(H:PHeap)(k:Nat):PV->Option (Nat×List PV)
 |.sl a c=>if a=k then some (c.length,c.flatMap PV.cells)else none
 |.ps id b=>
  match Jf H id b with
  |some (_,a,m,cs)=>if a=k then some (m,cs)else none
  |none=>none
 |.u (.slice _ 0 _)=>some (0,[])
 |_=>none
theorem flat_length{k:Nat}:∀(ys:List PV),(∀y∈ys,y.cells.length=k)->(ys.flatMap PV.cells).length=ys.length*k
 |[],_=>by simp
 |y::ys,h=>by rw[wdd,wcu,flat_length ys (λz hz=>h z (by simp[hz])),h y (by simp),wdy,wd6];omega
theorem ziu{V:Nm->Value}{w:World}(S:HRel P W H V w){k m:Nat}{cs:List PV}{p:PV}{v:Value}(B:Rp W.Z H V w p v)(h:zxb H k p=some (m,cs)):
  ∃D c,v=.slice D m c/\((m=0/\cs=[])\/∃b f,D=some b/\f.length=m*k/\RpL W.Z H V w cs f/\∀j u,f[j]?=some u->w.cell? (b.add j)=some u):=by
 unfold zxb at h;split at h
 ·rename_i C r;split at h
  ·rename_i z;subst z;cases h;cases B with
   |nil k a c=>exact⟨a,c,rfl,.inl ⟨rfl,rfl⟩⟩
   |sl k r b o c g n L hz y E F=>
    have l:=flat_length r n;refine⟨_,c,rfl,.inr ⟨⟨b,o,none⟩,(List.range (r.length*C)).map g,rfl,by simp,⟨by simp[l],λi p v G I=>?_⟩,λj u n=>?_⟩⟩
    ·have d:=(wcg.1 G).1;rw[l]at d;simp[d]at I;rw[<- I];exact F i p G
    ·rw[Jj];have d:j<r.length*C:=by have:=(wcg.1 n).1;simpa using this
     simp[d]at n;rw[<- n];have Q:j<(r.flatMap PV.cells).length:=by rw[l];exact d
     exact E j _ (wcf Q)
  ·cases h
 ·rename_i id U;split at h
  ·rename_i t C X M R;split at h
   ·rename_i z;subst z;cases h;obtain⟨y,A⟩:=zq R;cases B with
    |ps _ _ _ T O=>
     rw[O (by rw[y];rfl) A];obtain⟨q,s,K,_⟩:=S.row id t _ _ _ y;rcases s.2 with⟨e,rfl⟩|⟨g,x,N,e,_⟩
     ·refine⟨none,0,e,.inl ⟨rfl,?_⟩⟩;have E:=s.1;have F:=K.1;exact wde (by omega)
     ·refine⟨_,x,e,.inr ⟨_,q,rfl,s.1,K,λj u n=>s.cells (g:=g) (by rw[e];rfl) j u n⟩⟩
   ·cases h
  ·cases h
 ·cases h;cases B;exact⟨_,_,rfl,.inl ⟨rfl,rfl⟩⟩
 ·cases h
theorem ziz{w:World}{base:Nat}{t ty e:TypeId}{i:TypeInfo}{z:Value}{k:Nat}(A:P.underlying t=some (.slice e))(hi:P.info? e=some i)(hz:i.zero=some z)(O:i.size=k)(D:z.cells.size=k)(p:0<k)
  {v:Value}{m:Nat}{xs:List Value}(d:w.ownsRow base e k v m xs){G:Option Addr}{m2 c:Nat}{a:List Value}(W:(m2=0/\a=[])\/∃b,G=some b/\a.length=m2*k/\(∀j u,a[j]?=some u->w.cell? (b.add j)=some u)/\∀u∈a,u.oneCell'=true)
  (r:m+m2<=maxLen) (f:(m+m2)*i.bytes<=140737488355328) (s:base<=w.heap.size) :
  ∃E F,(Builtin.append_ #[t,t] ty #[v,.slice G m2 c]).run P w=.ok E F/\F.ownsRow base e k E (m+m2) (xs++a)/\w.grownBy F v.ownBlock/\∀g,qf E=some g->w.heap.size<=g\/qf v=some g:=by
 rcases W with⟨rfl,rfl⟩|⟨b,rfl,C,I,L⟩
 ·refine⟨v,w,?_,by simpa using d,⟨rfl,rfl,rfl,wcq _,λ_ _ _=>rfl⟩,λg y=> .inr y⟩;rcases d.2 with⟨rfl,rfl⟩|⟨g,l,q,rfl,_,_,o,_⟩
  ·cases G<;>simp[Builtin.append_,run_underlying A,sizeOf,typeInfo,hi,Builtin.lenOf,Builtin.firstCells,loadCells,loadCellsFrom]
  ·cases G<;>simp[Builtin.append_,run_underlying A,sizeOf,typeInfo,hi,Builtin.lenOf,Builtin.firstCells,loadCells,loadCellsFrom,o,storeCells]
 ·obtain⟨E,F,K,S,T,_⟩:=run_append_own (P:=P) w base t ty e i z k i.bytes A hi hz O rfl D p v m xs d b m2 c a C I L r f s;refine⟨E,F,K,S,T,λg y=>?_⟩;rcases d.2 with⟨rfl,rfl⟩|⟨H,l,q,rfl,U,N,o,V,M,Q⟩
  ·have X:xs=[]:=wde (by simpa using d.1);subst X;obtain⟨Z,J,h,R,_⟩:=run_append_own (P:=P) w w.heap.size t ty e i z k i.bytes A hi hz O rfl D p (.slice none 0 0) 0 [] (World.ownsRow_nil _ _ _ _) b m2 c a C I L r f (wcq _);rw[K]at h;cases h;left;refine(R.lt g ?_).1;rcases R.2 with⟨rfl,_⟩|⟨Y,l,q,rfl,_⟩
   ·cases y
   ·exact y
  ·subst O;by_cases n:m+m2<=l
   ·have h:=run_append_room (P:=P) w t ty e i A hi H m l q N b m2 c a C I L n (by rw[C,M,<- wd6];exact wes _ n);rw[K]at h;cases h;exact .inr y
   ·have x:∀j u,xs[j]?=some u->w.cell? ((⟨H,0,none⟩:Addr).add j)=some u:=d.cells (g:=H) rfl;have B:((m+m2:Nat):Int)<=9223372036854775807:=by simp only[maxLen]at r;omega
    have h:=run_append_grow (P:=P) w t ty e i z A hi hz ⟨H,0,none⟩ m l xs d.1 x b m2 c a C I (by omega) B (growslice_fits (by omega) f);rw[K]at h;cases h;cases y;exact .inl (wcq _)
theorem Yt{w:World}{base:Nat}{e:TypeId}{k m:Nat}{v:Value}{xs:List Value}(h:w.ownsRow base e k v m xs):v.ownBlock=qf v:=by
 rcases h.2 with⟨rfl,_⟩|⟨g,a,b,rfl,_⟩<;>rfl
theorem PE.append{o:Oper}{s x:Operand}{t e:TypeId}{k b d ver m m2:Nat}{id:Nm}{z:Value}{cs cs2:List PV}{K:PV->PHeap->Prop}(ho:o.op=.call { callee :=.builtin .append,args:=#[s,x],argTypes:=#[t,t] })(hd:o.dst=some d)(a2:d<n)(ht:Jy P t=some (e,k,b,z))
  (hs:evP F s=.ps id ver) (hl:Jf H id ver=some (e,k,m,cs)) (hx:zxb H k (evP F x)=some (m2,cs2)) (G:∀p∈cs2,Jm H p=true) (a0:m+m2<=maxLen) (C:(m+m2)*b<=140737488355328)
  (hk:K (.ps id (ver+1)) (H.set id ⟨ver+1,some (.row e k (m+m2) (cs++cs2))⟩)):PE P W n o F H K:=λV a w D=>by
 obtain⟨i,B,hi,b4,a9,rfl,b3,R⟩:=zbl ht;obtain⟨J,b1⟩:=zq hl;have a8:a.eval s=V id:=by
  have:=Rp.eval (P:=P) (F:=F) (a:=a) (Z:=W.Z) (H:=H) (V:=V) (w:=w) s λt _=>D.slot t;rw[hs]at this;generalize a.eval s=q at this;cases this with
  |ps _ _ _ d3 hh=>exact hh (by rw[J];rfl) b1
 obtain⟨U,A,M,h1⟩:=D.heap.row id e k m cs J;obtain⟨ad,c,b2,T⟩:=ziu D.heap (Rp.eval (P:=P) (F:=F) (a:=a) x λt _=>D.slot t) hx;have L:∃f,RpL W.Z H V w cs2 f/\(∀u∈f,u.oneCell'=true)/\((m2=0/\f=[])\/∃b,ad=some b/\f.length=m2*k/\(∀j u,f[j]?=some u->w.cell? (b.add j)=some u)/\∀u∈f,u.oneCell'=true):=by
  rcases T with⟨rfl,rfl⟩|⟨b,f,e1,e2,y,e4⟩
  ·exact⟨[],⟨rfl,λi p v h=>by simp at h⟩,(λu B=>by cases B),.inl ⟨rfl,rfl⟩⟩
  ·have r:∀u∈f,u.oneCell'=true:=λu B=>by
    obtain⟨j,hj,rfl⟩:=wew B;have Q:j<cs2.length:=by rw[y.1];exact hj
    exact(y.2 j _ _ (wcf Q) (wcf hj)).leaf D.heap (G _ (wcm Q))
   exact⟨f,y,r,.inr ⟨b,e1,e2,e4,r⟩⟩
 obtain⟨f,y,r,a7⟩:=L;obtain⟨v',w',S,I,E,N⟩:=ziz (P:=P) (ty:=o.type) (c:=c) B hi b4 a9 b3 R A a7 a0 C D.heap.below.size;have a3:(execOp a.eval o).run P w=.ok (.value v') w':=by
  unfold execOp;simp only[ho,resolve,invoke,builtin,Sem.run_bind,Sem.run_pure,Result.andThen_ok,wfv,wc4,wed,a8,b2,S]
 refine yv a3 ⟨_,_,yq V id v',hk,?_⟩;have a6:=Yt A;have l:Turn W H V w id ⟨ver+1,some (.row e k (m+m2) (cs++cs2))⟩ v' w':=by
  refine⟨D.heap.below.grown E D.heap.below.size λkk hk=>?_,E.size,λbb a5 hn=>E.block bb a5 λe'=>hn ⟨by rw[J];rfl,by rw[<- a6];exact e'.symm⟩,λg hg=>?_,.inl (by show(H id).ver<ver+1;omega)⟩
  ·exact(A.lt kk hk).1
  ·rcases N g hg with h|h
   ·exact .inl h
   ·exact .inr ⟨by rw[J];rfl,h⟩
 rw[hd];refine D.turn l (λbd a1=>?_) (some d) (λt ht=>by cases ht;exact a2) ?_
 ·cases a1;refine⟨U++f,I,⟨by simp[M.1,y.1],λi p v X Y=>?_⟩,λu B=>?_⟩
  ·by_cases O:i<cs.length
   ·rw[wcr O]at X;rw[wcr (by rw[<- M.1];exact O)]at Y;exact l.rp (M.2 i p v X Y)
   ·rw[wct (by omega)]at X;rw[wct (by rw[<- M.1];omega),<- M.1]at Y;exact l.rp (y.2 _ p v X Y)
  ·rcases wco.1 B with B|B
   ·exact h1 u B
   ·exact r u B
 ·refine .ps _ _ _ ?_ λ_ _=>?_
  ·simp[PHeap.set]
  ·simp[yq]
theorem waw{o:Oper}{s x:Operand}{t e:TypeId}{k b d m2:Nat}{id:Nm}{z:Value}{cs2:List PV}{K:PV->PHeap->Prop}(ho:o.op=.call { callee :=.builtin .append,args:=#[s,x],argTypes:=#[t,t] })(hd:o.dst=some d)(O:d<n)(ht:Jy P t=some (e,k,b,z))
  (hs:evP F s=.u (.slice none 0 0)) (hx:zxb H k (evP F x)=some (m2,cs2)) (B:∀p∈cs2,Jm H p=true) (a7:m2<=maxLen) (A:m2*b<=140737488355328)
  (R:K (.ps id ((H id).ver+1)) (H.set id ⟨(H id).ver+1,some (.row e k m2 cs2)⟩)):PE P W n o F H K:=λV a w D=>by
 obtain⟨i,N,hi,J,U,rfl,Y,I⟩:=zbl ht;have T:a.eval s=.slice none 0 0:=by
  have:=Rp.eval (P:=P) (F:=F) (a:=a) (Z:=W.Z) (H:=H) (V:=V) (w:=w) s λt _=>D.slot t;rw[hs]at this;generalize a.eval s=q at this;cases this;rfl
 obtain⟨ad,c,X,M⟩:=ziu D.heap (Rp.eval (P:=P) (F:=F) (a:=a) x λt _=>D.slot t) hx;have C:∃f,RpL W.Z H V w cs2 f/\(∀u∈f,u.oneCell'=true)/\((m2=0/\f=[])\/∃b,ad=some b/\f.length=m2*k/\(∀j u,f[j]?=some u->w.cell? (b.add j)=some u)/\∀u∈f,u.oneCell'=true):=by
  rcases M with⟨rfl,rfl⟩|⟨b,f,e1,e2,m,e4⟩
  ·exact⟨[],⟨rfl,λi p v h=>by simp at h⟩,(λu N=>by cases N),.inl ⟨rfl,rfl⟩⟩
  ·have l:∀u∈f,u.oneCell'=true:=λu N=>by
    obtain⟨j,hj,rfl⟩:=wew N;have G:j<cs2.length:=by rw[m.1];exact hj
    exact(m.2 j _ _ (wcf G) (wcf hj)).leaf D.heap (B _ (wcm G))
   exact⟨f,m,l,.inr ⟨b,e1,e2,e4,l⟩⟩
 obtain⟨f,m,l,S⟩:=C;obtain⟨v',w',L,y,r,E⟩:=ziz (P:=P) (ty:=o.type) (c:=c) N hi J U Y I (World.ownsRow_nil w W.w.heap.size e k) S (by omega) (by simpa using A) D.heap.below.size;have Q:(execOp a.eval o).run P w=.ok (.value v') w':=by
  unfold execOp;simp only[ho,resolve,invoke,builtin,Sem.run_bind,Sem.run_pure,Result.andThen_ok,wfv,wc4,wed,T,X,L]
 refine yv Q ⟨_,_,yq V id v',R,?_⟩;rw[hd];rw[wdo,wei]at y;have hb:Below w.heap.size w w':=⟨r.os,r.tape,r.output,r.size,λk R=>r.block k R (by simp[Value.ownBlock])⟩
 exact D.newRow O hb (λg hg=>(E g hg).resolve_right (by simp[qf])) y m l
def PL(P:Program)(W:Env)(n:Nat)(ops:Array Oper)(l:List Oper)(F:PFrame)(H:PHeap)(K:PFrame->PHeap->Prop):Prop:=
 ∀(V:Nm->Value)(a:Act)(w:World)(Q:Exit->Act->World->Prop),Rel P W n F H V a w->(∀b c f d e,K b c->Rel P W n b c f d e->Q .normal d e)->wpList P ops Q l a w
theorem PL.nil{ops:Array Oper}{K:PFrame->PHeap->Prop}(h:K F H):PL P W n ops [] F H K:=λV a w Q c b=>wpList_nil (b F H V a w h c)
theorem jb4{o:Oper}{a:Act}{w:World}{K j:Act->World->Prop}{Q:Exit->Act->World->Prop}(h:o.wp P a w K (λ_ _ _=>False))(g:∀a w,K a w->j a w):o.wp P a w j Q:=by
 unfold Oper.wp at *;generalize (execOp a.eval o).run P w=r at *;cases r with
 |ok l m=>
  cases l<;>simp only[Oper.upon]at h⊢
  case value u=>exact g _ _ h
  case skip=>exact g _ _ h
  case defer d=>exact g _ _ h
  case enter f args=>
   refine h.mono λe i b=>?_;cases e with
   |returned v=>exact g _ _ b
   |panicked c=>exact b.elim
   |outgrown=>obtain⟨_,_,k⟩:=b;exact k.elim
  case row row args=>exact h.mono λv i b=>g _ _ b
 |halt x m=>cases x<;>simp only[Oper.upon]at h
theorem PL.cons{ops:Array Oper}{o:Oper}{l:List Oper}{K:PFrame->PHeap->Prop}(j:V3 ops o F=some true)(h:PE P W n o F H λp c=>PL P W n ops l (F.put o.dst p) c K):PL P W n ops (o::l) F H K:=λV a w Q d g=>by
 unfold wpList;rw[zb3 j d.slot];simp only[if_true];exact .inl (jb4 (h V a w d) λf k⟨p,c,e,i,b⟩=>i e f k Q b g)
theorem PL.skip{ops:Array Oper}{o:Oper}{l:List Oper}{K:PFrame->PHeap->Prop}(e:V3 ops o F=some false)(d:Y4 n o)(h:PL P W n ops l (F.put o.dst (.u undef)) H K):PL P W n ops (o::l) F H K:=λV a w Q b c=>by
 unfold wpList;rw[zb3 e b.slot];simp only[wdp,if_false];exact h V _ w Q (b.put (Below.refl _ _) o.dst d (.u _)) c
def PC(P:Program)(W:Env)(n:Nat)(c:Code)(F:PFrame)(H:PHeap)(Q:Exit->PFrame->PHeap->Prop):Prop:=
 ∀(V:Nm->Value)(a:Act)(w:World)(f:Exit->Act->World->Prop),Rel P W n F H V a w->(∀e b d i g h,Q e b d->Rel P W n b d i g h->f e g h)->c.wp P f a w
def jo8(K:PFrame->PHeap->Prop)(Q:Exit->PFrame->PHeap->Prop):Exit->PFrame->PHeap->Prop
 |.normal,F,H=>K F H
 |e,F,H=>Q e F H
def zx3(id:Nat)(Q:Exit->PFrame->PHeap->Prop):Exit->PFrame->PHeap->Prop
 |.exit a,F,H=>if a=id then Q .normal F H else Q (.exit a) F H
 |e,F,H=>Q e F H
section
variable{Q:Exit → PFrame → PHeap → Prop}
theorem PC.skip(h:Q .normal F H):PC P W n .skip F H Q:=λV a w d c b=>wp_skip (b _ _ _ _ _ _ h c)
theorem PC.ret(h:Q .ret F H):PC P W n .ret F H Q:=λV a w d c b=>wp_ret (b _ _ _ _ _ _ h c)
theorem PC.exit{id:Nat}(h:Q (.exit id) F H):PC P W n (.exit id) F H Q:=λV a w d c b=>wp_exit (b _ _ _ _ _ _ h c)
theorem PC.seq{x y:Code}(h:∀K:PFrame->PHeap->Prop,(∀F H,PC P W n y F H Q->K F H)->PC P W n x F H (jo8 K Q)):PC P W n (.seq x y) F H Q:=λV a w f j c=>by
 refine wp_seq (h (λF H=>PC P W n y F H Q) (λ_ _ h=>h) V a w _ j λe l m g i k d b=>?_);cases e with
 |normal=>exact d g i k f b c
 |_=>exact c _ _ _ _ _ _ d b
theorem PC.cond{c:Operand}{x y:Code}{t:Bool}(i:evP F c=.u (.bool t))(k:t=true->PC P W n x F H Q)(j:t=false->PC P W n y F H Q):PC P W n (.cond c x y) F H Q:=λV a w f d g=>by
 have b:=Rp.eval (P:=P) (F:=F) (a:=a) (Z:=W.Z) (H:=H) (V:=V) (w:=w) c λt _=>d.slot t;rw[i]at b;have h:a.eval c=.bool t:=by generalize a.eval c=q at b;cases b;rfl
 exact wp_cond_split h (λe=>k e V a w f d g) (λe=>j e V a w f d g)
theorem PC.block{id:Nat}{c:Code}(h:PC P W n c F H (zx3 id Q)):PC P W n (.block id c) F H Q:=λV a w l i f=>by
 refine wp_block (h V a w _ i λe j k m o p d b=>?_);cases e with
 |exit g=>
  simp only[zx3]at d;simp only[Exit.inBlock];by_cases e:g=id
  ·rw[if_pos e]at d⊢;exact f _ _ _ _ _ _ d b
  ·rw[if_neg e]at d⊢;exact f _ _ _ _ _ _ d b
 |_=>exact f _ _ _ _ _ _ d b
theorem ji5{c:Code}{Q:Exit->Act->World->Prop}(I:Nat->Act->World->Prop)(round:∀m a w,I m a w->c.wp P (Exit.then (λi n=>∃p,p<m/\I p i n) Q) a w){m:Nat}{a:Act}{w:World}(h:I m a w):(Code.loop c).wp P Q a w:=by
 intro b k cs;have t:∀m a w,I m a w->∃e i n,Q e i n/\Arrives P (lone (b.at a (.code c :: .inLoop c::k)) cs w) b k cs e i n:=by
  intro m;induction m using Nat.strongRecOn with
  |_ m z=>
   intro a w y;obtain⟨e,j,o,f,d⟩:=round m a w y b (.inLoop c::k) cs;cases e with
   |normal=>
    obtain⟨p,r,q⟩:=f;obtain⟨v,u,A,s,g⟩:=z p r j o q;exact⟨v,u,A,s,.of_steps (Steps.trans d (.one step_inLoop)) g⟩
   |exit id=>exact⟨_,j,o,f,.pass (x :=.inLoop c) rfl (λ_ _=> .inl (by simp)) d⟩
   |goto l=>exact⟨_,j,o,f,.pass (x :=.inLoop c) rfl (λ_ _=> .inl (by simp)) d⟩
   |ret=>exact⟨_,j,o,f,.pass (x :=.inLoop c) rfl (λ_ _=> .inl (by simp)) d⟩
   |panic ch=>exact⟨_,j,o,f,.pass (x :=.inLoop c) rfl (λ_ _=> .inl (by simp)) d⟩
   |outgrown=>exact⟨_,j,o,f,.pass (x :=.inLoop c) rfl (λ_ _=> .inl (by simp)) d⟩
 obtain⟨e,i,n,f,d⟩:=t m a w h;exact⟨e,i,n,f,.of_steps (.one step_loop) d⟩
theorem PC.loop{c:Code}(I:Nat->PFrame->PHeap->Prop){m:Nat}(h0:I m F H)(round:∀m F H,I m F H->PC P W n c F H (jo8 (λf g=>∃d,d<m/\I d f g) Q)):PC P W n (.loop c) F H Q:=λV a w q k p=>by
 refine ji5 (λm a w=>∃F H V,I m F H/\Rel P W n F H V a w) (λm a w i=>?_) ⟨F,H,V,h0,k⟩;obtain⟨F,H,V,i,k⟩:=i;refine round m F H i V a w _ k λe f g o r s l b=>?_;cases e with
 |normal=>
  obtain⟨d,j,h⟩:=l;exact⟨d,j,f,g,o,h,b⟩
 |_=>exact p _ _ _ _ _ _ l b
theorem PC.region{id:Nat}{l:List Oper}(h:PL P W n l.toArray l F H (Q .normal)):PC P W n (.region id l.toArray false) F H Q:=λV a w c f d=>wp_region_lit (h V a w c f λg i j k m e b=>d _ _ _ _ _ _ e b)
theorem PC.mono{c:Code}{Q':Exit->PFrame->PHeap->Prop}(h:PC P W n c F H Q)(m:∀e F H,Q e F H->Q' e F H):PC P W n c F H Q':=λV a w b o k=>h V a w b o λe f g i j p l d=>k e f g i j p (m _ _ _ l) d
end
def zif(P:Program)(H:PHeap)(F:PFrame):ResultVar->Option PV
 |.tmp t=>some (F t)
 |.cell a t=>za0 P H t (F a)
def z9n(P:Program)(fn:Func)(F:PFrame)(H:PHeap):Option PV:=
 match fn.results.toList with
 |[r]=>zif P H F r
 |l=>(l.mapM (zif P H F)).map .tup
theorem zvr{V:Nm->Value}{a:Act}{w:World}(c:Rel P W n F H V a w)(r:ResultVar){p:PV}(h:zif P H F r=some p):
  ∃v,((match r with|.tmp t=>pure (a.tmps.getD t undef)|.cell x t=>do loadVar t (<- asAddr (a.tmps.getD x undef))):Sem Value).run P w=.ok v w/\Rp W.Z H V w p v:=by
 cases r with
 |tmp t=>cases h;exact⟨_,rfl,c.slot t⟩
 |cell x t=>
  obtain⟨u,b,e⟩:=zrs c.heap (c.slot x) h;refine⟨u,?_,e⟩;show(do loadVar t (<- asAddr (a.tmps.getD x undef)):Sem Value).run P w=.ok u w;generalize a.tmps.getD x undef=q at b⊢;cases q with
  |pointer d=>
   cases d with
   |none=>simp[Instr.loadAt,Instr.sureAddr]at b
   |some d=>simpa [Instr.loadAt,Instr.sureAddr,asAddr]using b
  |_=>simp[Instr.loadAt,Instr.sureAddr]at b
theorem zxg{V:Nm->Value}{a:Act}{w:World}(m:Rel P W n F H V a w):∀(l:List ResultVar)(ps:List PV),l.mapM (zif P H F)=some ps ->
  ∃d,(l.mapM λr=>(match r with|.tmp t=>pure (a.tmps.getD t undef)|.cell x t=>do loadVar t (<- asAddr (a.tmps.getD x undef)):Sem Value)).run P w=.ok d w/\RpL W.Z H V w ps d
 |[],ps,h=>by simp at h;subst h;exact⟨[],by simp,rfl,λi p v h=>by simp at h⟩
 |r::l,ps,h=>by
  simp only[we6,bind_pure_comp,Option.bind_eq_bind]at h;cases c:zif P H F r with
  |none=>rw[c]at h;cases h
  |some p=>
   cases e:l.mapM (zif P H F)with
   |none=>rw[c,e]at h;cases h
   |some k=>
    rw[c,e]at h;simp at h;subst h;obtain⟨v,q,o⟩:=zvr m r c;obtain⟨d,j,b⟩:=zxg m l k e;refine⟨v::d,?_,by simp[b.1],λi s u f g=>?_⟩
    ·rw[we6,Sem.run_bind,q];simp only[Result.andThen_ok,Sem.run_bind,j,Sem.run_pure]
    ·cases i with
     |zero=>simp at f g;subst f g;exact o
     |succ i=>exact b.2 i s u (by simpa using f) (by simpa using g)
theorem zu9{V:Nm->Value}{a:Act}{w:World}(k:Rel P W n F H V a w){fn:Func}{p:PV}(h:z9n P fn F H=some p):∃v,(results fn a.tmps).run P w=.ok v w/\Rp W.Z H V w p v:=by
 have b:∀d:List Value,(fn.results.toList.mapM λr=>(match r with|.tmp t=>pure (a.tmps.getD t undef)|.cell x t=>do loadVar t (<- asAddr (a.tmps.getD x undef)):Sem Value)).run P w=.ok d w ->
   (results fn a.tmps).run P w=.ok (if h:d.toArray.size=1 then d.toArray[0]else .tuple d.toArray) w:=λd f=>by
  unfold results;rw[Sem.run_bind,Array.mapM_eq_mapM_toList];simp only[Sem.run_map]
  erw [f]
  rfl
 unfold z9n at h;split at h
 ·rename_i r B;obtain⟨v,D,C⟩:=zvr k r h;have c:=b [v] (by rw[B,we6,Sem.run_bind,D];simp);exact⟨v,by simpa using c,C⟩
 ·rename_i q;obtain⟨ps,j,rfl⟩:=wcs.1 h;obtain⟨d,f,o⟩:=zxg k _ ps j;have c:=b d f;have g:¬d.toArray.size=1:=λe=>by
   have y:ps.length=1:=by rw[o.1];simpa using e
   have u:fn.results.toList.length=ps.length:=by
    have:∀(l:List ResultVar)(ps:List PV),l.mapM (zif P H F)=some ps->l.length=ps.length:=by
     intro l;induction l with
     |nil=>intro ps h;simp at h;subst h;rfl
     |cons r l E=>
      intro ps h;simp only[we6,bind_pure_comp,Option.bind_eq_bind]at h;cases c:zif P H F r with
      |none=>rw[c]at h;cases h
      |some p=>
       cases m:l.mapM (zif P H F)with
       |none=>rw[c,m]at h;cases h
       |some s=>rw[c,m]at h;simp at h;subst h;simp[E s m]
    exact this _ _ j
   rw[y]at u;obtain⟨r,k⟩:=List.length_eq_one_iff.1 u;exact q r k
  rw[dif_neg g]at c;exact⟨_,c,.tup _ _ (by simpa using o.1) λi p v z A=>o.2 i p v z (by simpa using A)⟩
def zi6(a:List PV):PFrame:=λt=>(a[t]?).getD (.u undef)
theorem Rel.enter{Z:ZM}{w:World}{a:List PV}{vs:List Value}(hz:∀b,Z b->b<w.heap.size)(d:Z.m<=w.heap.size)(e:RpL Z PHeap.empty V0 w a vs){m:Nat}(hm:a.length<=m):
  Rel P { w:=w,Z:=Z,hm:=d } m (zi6 a) PHeap.empty V0 { tmps:=vs.toArray++Array.replicate (m-vs.toArray.size) undef,defers:=[] } w:=by
 have g:=e.1;refine⟨HRel.empty (Below.refl _ _) (λi=> .unk _) hz,by simp;omega,rfl,λt=>?_⟩;unfold zi6;by_cases f:t<a.length
 ·have c:t<vs.length:=by omega
  have:=e.2 t _ _ (wcf f) (wcf c);rw[wcf f];simpa [wd0,Array.getElem?_append,c]using this
 ·have c:¬t<vs.length:=by omega
  rw[wdt (by omega)];have:(vs.toArray++Array.replicate (m-vs.toArray.size) undef).getD t undef=undef:=by
   rw[wd0,Array.getElem?_append,if_neg (by simpa using c),Array.getElem?_replicate];split<;>rfl
  simp only[this,Option.getD_none];exact .u _
def Env.push(W:Env)(F:PFrame)(a:Act):Env:=
 { W with G:=λi=>if i % 2=0 then F (i / 2)else W.G (i / 2),gv:=λi=>if i % 2=0 then a.tmps.getD (i / 2) undef else W.gv (i / 2) }
end
section
variable{P:Program}{n:Nat}{H:PHeap}{F:PFrame}{d ty:Nat}{pos:String}{af:Array Edge}{g:Option (Nat × Bool)}
variable{t:Nat}{x y:Operand}{k:IntKind}{a b:Int}
theorem jem:zi P .add t x y (.u (.int k a)) (.u (.int k b))=some (.u (.int k (k.wrap (a+b)))):=by simp[zi,PV.val2,eqGuard,binOp,qu,q6,Op.intArith,ofV]
theorem jfi:zi P .sub t x y (.u (.int k a)) (.u (.int k b))=some (.u (.int k (k.wrap (a-b)))):=by simp[zi,PV.val2,eqGuard,binOp,qu,q6,Op.intArith,ofV]
theorem jel:zi P .mul t x y (.u (.int k a)) (.u (.int k b))=some (.u (.int k (k.wrap (a*b)))):=by simp[zi,PV.val2,eqGuard,binOp,qu,q6,Op.intArith,ofV]
@[go_sem] theorem jiz:zi P .eql t x y (.u (.int k a)) (.u (.int k b))=some (.u (.bool (decide (a=b)))):=by simp[zi,PV.val2,eqGuard,binOp,qu,q6,Op.intCmp,ofV];rfl
@[go_sem] theorem jjt:zi P .neq t x y (.u (.int k a)) (.u (.int k b))=some (.u (.bool (decide (¬a=b)))):=by simp[zi,PV.val2,eqGuard,binOp,qu,q6,Op.intCmp,ofV];rfl
@[go_sem] theorem jjk:zi P .lss t x y (.u (.int k a)) (.u (.int k b))=some (.u (.bool (decide (a<b)))):=by simp[zi,PV.val2,eqGuard,binOp,qu,q6,Op.intCmp,ofV]
@[go_sem] theorem jkv:zi P .leq t x y (.u (.int k a)) (.u (.int k b))=some (.u (.bool (decide (a<=b)))):=by simp[zi,PV.val2,eqGuard,binOp,qu,q6,Op.intCmp,ofV]
@[go_sem] theorem jjy:zi P .gtr t x y (.u (.int k a)) (.u (.int k b))=some (.u (.bool (decide (b<a)))):=by simp[zi,PV.val2,eqGuard,binOp,qu,q6,Op.intCmp,ofV]
@[go_sem] theorem jjn:zi P .geq t x y (.u (.int k a)) (.u (.int k b))=some (.u (.bool (decide (b<=a)))):=by simp[zi,PV.val2,eqGuard,binOp,qu,q6,Op.intCmp,ofV]
@[go_sem] theorem jnr (b:Bool):unP P .not (.u (.bool b))=some (.u (.bool (!b))):=by simp[unP,PV.val2,Op.unary,q6,ofV]
@[go_sem] theorem jec (s u:ByteArray):zi P .eql t x y (.u (.string s)) (.u (.string u))=some (.u (.bool (s.toList == u.toList))):=by simp[zi,PV.val2,eqGuard,binOp,qu,q6,Op.stringOp,ofV]
@[go_sem] theorem jgg (s u:ByteArray):zi P .neq t x y (.u (.string s)) (.u (.string u))=some (.u (.bool (!(s.toList == u.toList)))):=by simp[zi,PV.val2,eqGuard,binOp,qu,q6,Op.stringOp,ofV]
end
abbrev I(z:Int):PV :=.u (.int .i64 z)
section
variable{P:Program}{W:Env}{n:Nat}{H:PHeap}{F:PFrame}{ops:Array Oper}{o:Oper}{l:List Oper}
theorem zrq(f:FuncId)(args:Array Operand)(ts:Array TypeId):zb2 F ⟨.value (.func f),args,ts⟩=some (f,args.toList.map (evP F)):=by simp[zb2,evP]
end
section
variable{P:Program}{W:Env}{n:Nat}{H:PHeap}{F:PFrame}
theorem wb8{o:Oper}{t e:TypeId}{x y:Operand}{d ver k m j:Nat}{id:Nm}{kd:IntKind}{cs:List PV}{K:PV->PHeap->Prop}(ho:o.op=.slice t x none (some y) none)(hd:o.dst=some d)(U:d<n)(ht:esz P t=some k)(hx:evP F x=.ps id ver)(hl:Jf H id ver=some (e,k,m,cs))(hy:evP F y=.u (.int kd (j:Int)))(hj:j<=m)
  (hk:K (.ps id (ver+1)) (H.set id ⟨ver+1,some (.row e k j (cs.take (j*k)))⟩)):PE P W n o F H K:=λV a w I=>by
 obtain⟨e',B,hu,M,rfl⟩:=ze1 ht;obtain⟨T,a3⟩:=zq hl;have N:a.eval x=V id:=by
  have:=Rp.eval (P:=P) (F:=F) (a:=a) (Z:=W.Z) (H:=H) (V:=V) (w:=w) x λt _=>I.slot t;rw[hx]at this;generalize a.eval x=q at this;cases this with
  |ps _ _ _ b5 Y=>exact Y (by rw[T];rfl) a3
 have O:a.eval y=.int kd j:=by
  have:=Rp.eval (P:=P) (F:=F) (a:=a) (Z:=W.Z) (H:=H) (V:=V) (w:=w) y λt _=>I.slot t;rw[hy]at this;generalize a.eval y=q at this;cases this;rfl
 obtain⟨s,r,hR,h1⟩:=I.heap.row id e _ m cs T;have a4:∃C,(execOp a.eval o).run P w=.ok (.value C) w/\w.ownsRow W.w.heap.size e B.size C j (s.take (j*B.size))/\qf C=qf (V id):=by
  have f:(s.take (j*B.size)).length=j*B.size:=by
   rw[wdl,r.1];exact wft (wes _ hj)
  rcases r.2 with⟨D,rfl⟩|⟨g,cap,R,D,X,Y,a7,G,a0,A⟩
  ·have J:j=0:=by omega
   subst J;refine⟨.slice none 0 0,?_,⟨f,.inl ⟨rfl,rfl⟩⟩,by rw[D]⟩;have b:=y9 (P:=P) (w:=w) (isS:=true) (len:=0) (cap:=0) (l:=0) (h:=0) (lo:=none) (hi:=some (.int kd (0:Nat))) (.inl ⟨rfl,rfl⟩) (.inr ⟨kd,_,rfl,by simp,by simp⟩) (wcq _) (wcq _);simp only[execOp,ho];simp[N,O,D,Instr.sliceAt,Instr.slice,run_underlying hu,b,sizeOf,typeInfo,M]at b⊢
  ·refine⟨.slice (some ⟨g,0,none⟩) j cap,?_,⟨f,.inr ⟨g,cap,R,rfl,X,Y,by omega,G,a0,?_⟩⟩,by rw[D];rfl⟩
   ·have b:=y9 (P:=P) (w:=w) (isS:=true) (len:=m) (cap:=cap) (l:=0) (h:=j) (lo:=none) (hi:=some (.int kd (j:Nat))) (.inl ⟨rfl,rfl⟩) (.inr ⟨kd,_,rfl,by simp,by simp⟩) (wem _) (by omega);simp only[execOp,ho];simp[N,O,D,Instr.sliceAt,Instr.slice,run_underlying hu,b,sizeOf,typeInfo,M];by_cases hc:cap=0
    ·simp[hc]
    ·simp[hc,Jj]
   ·rw[<- A,List.take_take,wft (wes _ hj)]
 obtain⟨C,L,z,E⟩:=a4;have c:Turn W H V w id ⟨ver+1,some (.row e B.size j (cs.take (j*B.size)))⟩ C w:=by
  refine⟨I.heap.below,wcq _,λ_ _ _=>rfl,λg X=> .inr ⟨by rw[T];rfl,by rw[<- E];exact X⟩,.inl (by show(H id).ver<ver+1;omega)⟩
 refine yv L ⟨_,_,yq V id C,hk,?_⟩;rw[hd];refine I.turn c (λbd b=>?_) (some d) (λt ht=>by cases ht;exact U) ?_
 ·cases b;refine⟨_,z,⟨by simp[hR.1],λi p v Q S=>?_⟩,λu a2=>h1 u (wez a2)⟩;rw[wd7]at Q S;split at Q
  ·rename_i hi;rw[if_pos hi]at S;exact c.rp (hR.2 i p v Q S)
  ·cases Q
 ·refine .ps _ _ _ ?_ λ_ _=>?_
  ·simp[PHeap.set]
  ·simp[yq]
end
def zmq(P:Program)(t:TypeId):Option IntKind:=match P.underlying t with|some (.int k)=>some k|_=>none
section
variable{P:Program}{t:TypeId}{x y:Operand}{k:IntKind}{a b:Int}
theorem zlk{t:TypeId}(h:zmq P t=some k):P.underlying t=some (.int k):=by
 unfold zmq at h;split at h
 ·cases h;assumption
 ·cases h
@[go_sem] theorem jfx {s d:TypeId}{k b:IntKind}{n:Int}(g:(zmq P s).isSome=true) (f:zmq P d=some k):jb9 P s d (.u (.int b n))=some (.u (.int k (k.wrap n))):=by
 obtain⟨h,a⟩:=wdi.1 g;have:(convert s d (.int b n)).val P=some (.int k (k.wrap n)):=by
  have c:(underlying s).val P=some (.int h):=by simp[underlying,program,qu,Sem.val,zlk a];rfl
  have e:(underlying d).val P=some (.int k):=by simp[underlying,program,qu,Sem.val,zlk f];rfl
  simp only[convert,qu,c,e,wdr,Conv.intToInt,q6]
 simp[jb9,PV.val2,this,ofV]
end
section
variable{P:Program}{W:Env}{n:Nat}{H:PHeap}{F:PFrame}{ops:Array Oper}{o:Oper}{l:List Oper}{K:PFrame → PHeap → Prop}
theorem Rp.forget{Z:ZM}{V:Nm->Value}{w:World}{t:TypeId}{k:Nat}{xs:List PV}{v:Value}(h:Rp Z H V w (.fr t k xs) v):Rp Z H V w (.sl k xs) v:=by
 cases h with
 |fr t k xs v a x r hz l n=>
  have j:=r.1;rcases r.2 with⟨e,p⟩|⟨g,m,y,e,C,o,f,_,_,s⟩
  ·have:xs=[]:=wde p;rw[e,this];exact .nil _ _ _
  ·have A:(xs.flatMap PV.cells).length=a.length:=by rw[flat_length xs x,j]
   have b:∀(i:Nat)(q:PV),(xs.flatMap PV.cells)[i]?=some q->∃u,a[i]?=some u/\w.cell? ⟨g,0+i,none⟩=some u/\Rp Z H V w q u:=λi q d=>by
    have B:=(wcg.1 d).1;have c:i<a.length:=by omega
    refine⟨a[i],wcf c,?_,n i _ _ d (wcf c)⟩;have:=r.cells (g:=g) (by rw[e];rfl) i _ (wcf c);rwa [Jj]at this
   have:=Rp.sl (Z:=Z) (H:=H) (V:=V) (w:=w) k xs g 0 m (λi=>(a[i]?).getD undef) x f (hz g (by rw[e];rfl)) (wdh.1 o).1 (λi q d=>by
    obtain⟨u,l,n,_⟩:=b i q d;rw[l];exact n) (λi q d=>by
    obtain⟨u,l,_,z⟩:=b i q d;simp only[l,wda];exact z)
   rw[e];exact this
theorem wb5{Z:ZM}{V:Nm->Value}{w:World}{t:TypeId}{k:Nat}:Rp Z H V w (.fr t k []) (.slice none 0 0):=
 .fr t k [] _ [] (λy d=>by cases d) (World.ownsRow_nil _ _ _ _) (λb a=>by cases a) (λu c=>by cases c) (λi p u h=>by simp at h)
theorem wbo{t:TypeId}{k:Nat}:View H (.u (.slice none 0 0)) (.fr t k []):=λP W V w b v a=>by cases a;exact wb5
theorem PCall.forget{f:FuncId}{a:List PV}{t:TypeId}{k:Nat}{xs:List PV}(h:PCall P f a (· =.fr t k xs)):PCall P f a (· =.sl k xs):=λZ w m hz l j=>
 (h Z w m hz l j).mono λe n⟨v,p,b,c,d,g,i⟩=>by
  subst c;refine⟨v,_,b,rfl,?_,g.forget,i⟩;cases d with
  |fr _ _ _ h=>exact .sl _ _ h
inductive NoF:PV->Prop
 |u (v:Value):NoF (.u v)
 |agg (cs:List PV) (h:∀c∈cs,NoF c):NoF (.agg cs)
 |tup (cs:List PV) (h:∀c∈cs,NoF c):NoF (.tup cs)
 |sl (k:Nat) (xs:List PV) (h:∀c∈xs,NoF c):NoF (.sl k xs)
 |rp (cs:List PV) (h:∀c∈cs,NoF c):NoF (.rp cs)
theorem NoF.cell{p c:PV}(h:NoF p)(a:c∈p.cells):NoF c:=by
 cases h with
 |agg cs h=>exact h c a
 |u v=>simp[PV.cells]at a;subst a;exact .u v
 |tup cs h=>simp[PV.cells]at a;subst a;exact .tup cs h
 |sl k b h=>simp[PV.cells]at a;subst a;exact .sl k b h
 |rp cs h=>simp[PV.cells]at a;subst a;exact .rp cs h
theorem Rp.noF{Z E:ZM}{H D:PHeap}{V V':Nm->Value}{w:World}{p:PV}{v:Value}(h:Rp Z H V w p v)(e:NoF p)(hz:∀b,b<w.heap.size->¬PZ Z H V b->¬PZ E D V' b):Rp E D V' w p v:=by
 induction h with
 |u v=>exact .u v
 |unk v=>cases e
 |agg cs C z h l=>
  cases e with
  |agg _ m=>exact .agg cs C z λi p v d n=>l i p v d n (m p (wck d))
 |tup cs C z h l=>
  cases e with
  |tup _ m=>exact .tup cs C z λi p v d n=>l i p v d n (m p (wck d))
 |nil k a c=>exact .nil k a c
 |sl k K b o c g F s j q d n l=>
  cases e with
  |sl _ _ m=>exact .sl k K b o c g F s (hz b q j) q d λi p r=>l i p r (by
    obtain⟨y,N,A⟩:=wds.1 (wck r);exact(m y N).cell A)
 |fr t k K v I F R j d n l=>cases e
 |rp cs b o g j q d n l=>
  cases e with
  |rp _ m=>exact .rp cs b o g (hz b q j) q d λi p r=>l i p r (m p (wck r))
 |ps id x v G h=>cases e
 |qs id B k x v G h=>cases e
 |pp id B x v G h=>cases e
 |fn f a b S vb L M Q q O P=>cases e
end
end
end Go.Proofs.YtigdmmgklieofaaGreat.L
namespace Go.Proofs.YtigdmmgklieofaaGreat
noncomputable section
set_option maxRecDepth 100000
set_option maxHeartbeats 8000000
set_option linter.unusedVariables false
set_option linter.unusedSimpArgs false
open Go.RowKit
section
variable{α:Type}
def Rd(enc:α->Value)(w:World)(v:Value)(l:List α):Prop:=
 ∃(a:Option Addr)(c:Nat),v=.slice a l.length c/\∀(j:Nat)(h:j<l.length),∃b o,a=some ⟨b,o,none⟩/\w.cell? ⟨b,o+j,none⟩=some (enc l[j])
def Ow(enc:α->Value)(e:TypeId)(w:World)(B:Nat)(v:Value)(l:List α):Prop:=w.ownsRow B e 1 v l.length (l.map enc)
variable{enc:α → Value}{e:TypeId}
theorem Rd_nil(w:World)(a:Option Addr)(c:Nat):Rd enc w (.slice a 0 c) []:=⟨a,c,rfl,λj h=>by cases h⟩
theorem Rd.shape{w:World}{v:Value}{l:List α}(h:Rd enc w v l):∃a c,v=.slice a l.length c:=by
 obtain⟨a,c,rfl,_⟩:=h;exact⟨_,_,rfl⟩
theorem Ow_nil(w:World)(B:Nat):Ow enc e w B (.slice none 0 0) []:=World.ownsRow_nil w B _ 1
end
abbrev RdI:=Rd (Value.int .i64)
abbrev OwI:=Ow (Value.int .i64) 3
open Go
def za6(l:List Int):List Int:=l.mergeSort λx y=>decide (x<=y)
def Vi(l:List Int):List Int:=Lib.compact l
def jy(l:List Int):Prop:=l.Pairwise (· < ·)
theorem z6f{a b:List Int}(m:jy a)(n:jy b)(h:∀x,x∈a↔x∈b):a=b:=by
 induction a generalizing b with
 |nil=>
  cases b with
  |nil=>rfl
  |cons y b=>exact absurd ((h y).2 (by simp)) (by simp)
 |cons x a o=>
  cases b with
  |nil=>exact absurd ((h x).1 (by simp)) (by simp)
  |cons y b=>
   obtain⟨c,i⟩:=wd1.1 m;obtain⟨d,j⟩:=wd1.1 n;have g:x=y:=by
    have k:=(h x).1 (by simp);have l:=(h y).2 (by simp);rcases wc1.1 k with e|e
    ·exact e
    ·rcases wc1.1 l with f|f
     ·exact f.symm
     ·have:=d x e;have:=c y f;omega
   subst g;congr 1;refine o i j λz=>⟨λhz=>?_,λhz=>?_⟩
   ·rcases wc1.1 ((h z).1 (we8 _ hz))with e|e
    ·subst e;exact absurd (c z hz) (by omega)
    ·exact e
   ·rcases wc1.1 ((h z).2 (we8 _ hz))with e|e
    ·subst e;exact absurd (d z hz) (by omega)
    ·exact e
theorem zom(l:List Int):(za6 l).Pairwise (·<=·):=by
 have h:(l.mergeSort λx y=>decide (x<=y)).Pairwise λa b=>decide (a<=b)=true:=List.pairwise_mergeSort (le:=λx y=>decide (x<=y)) (by simp;intro a b c;omega) (by simp;intro a b;omega) l;exact h.imp (by intro a b;simp)
theorem z1a(l:List Int)(x:Int):x∈za6 l↔x∈l:=by simp[za6]
theorem zm5(l:List Int):(za6 l).length=l.length:=List.length_mergeSort l
theorem zqo(d:Array Int)(h:∀i j,i<j->j<d.size->d[i]!<=d[j]!)(m:Nat)(hm:m<=d.size):
  jy (Lib.compactUpTo d m)/\(∀x∈Lib.compactUpTo d m,∃j,j<m/\x=d[j]!)/\∀j,j<m->d[j]!∈Lib.compactUpTo d m:=by
 induction m with
 |zero=>exact⟨by simp[Lib.compactUpTo,jy],by simp[Lib.compactUpTo],by intro j c;omega⟩
 |succ m o=>
  obtain⟨k,f,g⟩:=o (by omega);rw[Lib.compactUpTo_succ];by_cases b:Lib.keeps d m=true
  ·rw[if_pos b];refine⟨?_,?_,?_⟩
   ·unfold jy;rw[wer];refine⟨k,by simp,?_⟩;intro x a y l;obtain⟨j,c,rfl⟩:=f x a;rw[wci]at l;subst l;have n:d[m]!≠d[m-1]!:=by
     simp[Lib.keeps]at b;rcases b with b|b
     ·omega
     ·exact b
    have p:=h j m c (by omega);have q:=h (m-1) m (by omega) (by omega);by_cases e:j=m-1
    ·subst e;omega
    ·have:=h j (m-1) (by omega) (by omega);omega
   ·intro x a;rcases wco.1 a with a|a
    ·obtain⟨j,c,e⟩:=f x a;exact⟨j,by omega,e⟩
    ·rw[wci]at a;exact⟨m,by omega,a⟩
   ·intro j c;by_cases e:j=m
    ·subst e;simp
    ·exact wfj _ (g j (by omega))
  ·rw[if_neg b,wc7];refine⟨k,λx a=>?_,λj c=>?_⟩
   ·obtain⟨j,c,e⟩:=f x a;exact⟨j,by omega,e⟩
   ·by_cases e:j=m
    ·subst e;simp[Lib.keeps]at b;rw[b.2];exact g (j-1) (by omega)
    ·exact g j (by omega)
theorem zla(l:List Int)(k:l.Pairwise (·<=·)):jy (Vi l)/\∀x,x∈Vi l↔x∈l:=by
 have h:∀i j,i<j->j<l.toArray.size->l.toArray[i]!<=l.toArray[j]!:=by
  intro i j b a;simp only[List.size_toArray]at a;have:=wff.1 k i j (by omega) a b;simpa [getElem!_pos,a,show i<l.length by omega]using this
 obtain⟨d,f,g⟩:=zqo l.toArray h l.length (by simp);refine⟨d,λx=>⟨λc=>?_,λc=>?_⟩⟩
 ·obtain⟨j,a,e⟩:=f x c;rw[e];simp[getElem!_pos,a]
 ·obtain⟨j,a,rfl⟩:=wew c;have:=g j a;simpa [getElem!_pos,a,Vi,Lib.compact]using this
theorem ztn(l:List Int):(Vi l).length<=l.length:=by
 unfold Vi Lib.compact Lib.compactUpTo;rw[wcv];exact wdk (wen _ _) (by simp)
theorem RdI.cells{w:World}{a:Option Addr}{c n:Nat}{l:List Int}(h:RdI w (.slice a n c) l):n=l.length/\(l=[]\/∃b o,a=some ⟨b,o,none⟩/\∀j,j<l.length->w.cell? ⟨b,o+j,none⟩=some (.int .i64 (l.getD j 0))):=by
 obtain⟨p,r,m,g⟩:=h;cases m;refine⟨rfl,?_⟩;by_cases h0:l=[]
 ·exact Or.inl h0
 ·have k:0<l.length:=List.length_pos_iff.2 h0;obtain⟨b,o,f,_⟩:=g 0 k;refine Or.inr ⟨b,o,f,λj i=>?_⟩;obtain⟨q,s,e,d⟩:=g j i;rw[f]at e;cases e;rw[d,wdg,wcf i];rfl
theorem jfk(v:Value)(l:List Int)(w:World)(j:RdI w v l)(n:l.length<=10000000):
  Calls Tryz.prog 109 #[v] w λe h=>∃f,e=.returned f/\OwI h w.heap.size f l/\Below w.heap.size w h:=by
 obtain⟨a,c,rfl⟩:=j.shape;obtain⟨_,h0|⟨b,o,rfl,k⟩⟩:=j.cells
 ·subst h0;cases a with
  |none=>exact(Tryz.slices_Clone_int_nil 0 c w).mono λe h⟨g,m⟩=>by subst m;exact⟨_,g,Ow_nil _ _,Below.refl _ _⟩
  |some a=>exact(Tryz.slices_Clone_int_zero a c w).mono λe h⟨f,g,d,_,i⟩=>⟨f,g,d,i⟩
 ·exact(Tryz.slices_Clone_int b o l.length c l w (wcq _) (by omega) k).mono λe h⟨f,g,d,_,i⟩=>⟨f,g,by rw[wc2]at d;exact d,i⟩
open Go Go.RowKit L
theorem L.mixed:Tryz.prog.follows .mixedOrders=true:=by kernel_rfl
def slI(l:List Int):PV :=.sl 1 (l.map I)
theorem rd_of{α:Type}{f:α->PV}{enc:α->Value}(i:∀x,f x=.u (enc x)){Z:ZM}{w:World}{l:List α}{v:Value}(h:Rp Z PHeap.empty V0 w (.sl 1 (l.map f)) v):Rd enc w v l:=by
 have d:(l.map f).flatMap PV.cells=l.map f:=by
  clear h;induction l with
  |nil=>rfl
  |cons x l t=>rw[wc4,wdd,t,i x];rfl
 generalize n:l.map f=y at h d;cases h with
 |nil k a c=>
  have:l=[]:=List.map_eq_nil_iff.1 n;subst this;exact Rd_nil _ _ _
 |sl k y b o c g A m hz z p r=>
  subst n;refine⟨_,c,by rw[wcv],λj s=>⟨b,o,rfl,?_⟩⟩;have e:((l.map f).flatMap PV.cells)[j]?=some (f l[j]):=by rw[d];simp[s]
  rw[p j _ e];have:=r j _ e;rw[i]at this;generalize g j=q at this;cases this;rfl
theorem rpu{Z:ZM}{H:PHeap}{V:Nm->Value}{w:World}{u v:Value}(h:Rp Z H V w (.u u) v):v=u:=by cases h;rfl
theorem rpl1{Z:ZM}{H:PHeap}{V:Nm->Value}{w:World}{p:PV}{vs:List Value}(h:RpL Z H V w [p] vs):∃v,vs=[v]/\Rp Z H V w p v:=by
 have a:=h.1
 match vs,a with
 |[v],_=>exact⟨v,rfl,h.2 0 p v rfl rfl⟩
theorem cells1{α:Type}{a:α->PV}(h:∀x,(a x).cells=[a x])(l:List α):(l.map a).flatMap PV.cells=l.map a:=by
 induction l with
 |nil=>rfl
 |cons m c b=>rw[wc4,wdd,b,h];rfl
end
end Go.Proofs.YtigdmmgklieofaaGreat
namespace Go.Proofs.YtigdmmgklieofaaGreat.L
noncomputable section
set_option maxRecDepth 100000
set_option maxHeartbeats 8000000
set_option linter.unusedVariables false
set_option linter.unusedSimpArgs false
open Go Go.RowKit
section
variable{P:Program}{W:Env}{n:Nat}{H:PHeap}{F:PFrame}{ops:Array Oper}{o:Oper}{l:List Oper}
def jnl(Q:Exit->PFrame->PHeap->Prop):Exit->PFrame->PHeap->Prop
 |.goto _,_,_=>False
 |e,F,H=>Q e F H
theorem PC.scope{c:Code}{Q:Exit->PFrame->PHeap->Prop}(h:PC P W n c F H (jnl Q)):PC P W n (.scope c) F H Q:=λV a w k g f=>
 wp_scope_straight (h V a w _ g λe i j l m o d b=>by
  cases e<;>first|exact f _ _ _ _ _ _ d b|exact d.elim)
theorem PC.label{i:Nat}{Q:Exit->PFrame->PHeap->Prop}(h:Q .normal F H):PC P W n (.label i) F H Q:=λV a w d c b=>wp_label (b _ _ _ _ _ _ h c)
end
section
variable{P:Program}{H:PHeap}{F:PFrame}{d ty:Nat}{pos:String}{af:Array Edge}{g:Option (Nat × Bool)}{x y:Operand}{t t' : Nat}{k:IntKind}{a b:Int}
def zl9(P:Program)(t:Nat):Operand->Bool
 |.const (.slice none 0 0)=>false
 |.const (.pointer none)=>false
 |_=>true
theorem zl0{b:BinOp}(a:zl9 P t y=true):jfd P H F b t x y=zi P b t x y (evP F x) (evP F y):=by
 unfold jfd;split
 ·simp[zl9]at a
 ·simp[zl9]at a
 ·rfl
theorem b_eqB(p q:Bool)(b:P.underlying t=some .bool):zi P .eql t x y (.u (.bool p)) (.u (.bool q))=some (.u (.bool (p == q))):=by
 have a:(Op.equal t (.bool p) (.bool q)).val P=some (p == q):=by
  unfold Op.equal Op.maxDepth Op.equalIn underlying;simp only[qu,program,Sem.val,b,Option.bind,q6]
 simp[zi,PV.val2,eqGuard,binOp,qu,q6,zux,a,ofV]
theorem b_neB(p q:Bool)(b:P.underlying t=some .bool):zi P .neq t x y (.u (.bool p)) (.u (.bool q))=some (.u (.bool (p != q))):=by
 have a:(Op.equal t (.bool p) (.bool q)).val P=some (p == q):=by
  unfold Op.equal Op.maxDepth Op.equalIn underlying;simp only[qu,program,Sem.val,b,Option.bind,q6]
 simp[zi,PV.val2,eqGuard,binOp,qu,q6,zux,a,ofV,bne]
end
end
end Go.Proofs.YtigdmmgklieofaaGreat.L
namespace Go.Proofs.YtigdmmgklieofaaGreat
noncomputable section
set_option maxRecDepth 100000
set_option maxHeartbeats 8000000
set_option linter.unusedVariables false
set_option linter.unusedSimpArgs false
open Go Go.RowKit L
abbrev Arr(n:Nat)(α:Type):={l:List α // l.length=n}
section
variable{P:Program}{W:Env}{n:Nat}{H:PHeap}{F:PFrame}{ops:Array Oper}{o:Oper}{l:List Oper}{K:PFrame → PHeap → Prop}
variable{d ty:Nat}{pos:String}{af:Array Edge}{g:Option (Nat × Bool)}{x y:Operand}{t t' : Nat}
theorem flat1{α:Type}{a:α->PV}(h:∀x,(a x).cells=[a x])(xs:List α):(xs.map a).flatMap PV.cells=xs.map a:=cells1 h xs
end
section
variable{P:Program}{W:Env}{n:Nat}{H:PHeap}{F:PFrame}{ops:Array Oper}{o:Oper}{l:List Oper}{K:PFrame → PHeap → Prop}
variable{d ty:Nat}{pos:String}{af:Array Edge}{g:Option (Nat × Bool)}{x y:Operand}{t t' : Nat}
theorem wbe{V:Nm->Value}{w:World}(p:HRel P W H V w){id:Nm}{ver e k m:Nat}{cs:List PV}(n:H id=⟨ver,some (.row e k m cs)⟩):
  (m=0/\V id=.slice none 0 0)\/∃b a c,V id=.slice (some ⟨b,0,none⟩) m a/\W.w.heap.size<=b/\w.heap[b]?=some (.cells c e (0,0))/\m<=a/\a<=maxLen/\c.size=a*k:=by
 obtain⟨f,o,_⟩:=p.row id e k m cs (by rw[n]);rcases o.2 with⟨d,h0⟩|⟨b,a,c,d,g,h,i,j,l,_⟩
 ·exact .inl ⟨h0,d⟩
 ·exact .inr ⟨b,a,c,d,g,h,i,j,l⟩
theorem wba{lo:Operand}{id:Nm}{ver e k m:Nat}{kd:IntKind}{z:Int}{cs:List PV}{o:Oper}(p:o.op=.slice t x (some lo) none none)(G:esz P t=some k)(K:evP F x=.ps id ver)(n:H id=⟨ver,some (.row e k m cs)⟩)(L:evP F lo=.u (.int kd z))(h0:0<=z)(hz:z.toNat<=m):PQ P W o F H (.qs id z.toNat k ver):=
 waf λV a w E B=>by
  obtain⟨N,M,A,g,rfl⟩:=ze1 G;have i:=B x (by rw[p];simp[Op.operands]);have j:=B lo (by rw[p];simp[Op.operands]);rw[K]at i;rw[L]at j;have s:a.eval x=V id:=by
   generalize a.eval x=q at i;cases i with
   |ps _ _ _ I D=>exact D (by rw[n];rfl) (by rw[n])
  have v:a.eval lo=.int kd z:=by generalize a.eval lo=q at j;cases j;rfl
  rcases wbe E n with⟨rfl,d⟩|⟨b,cap,C,d,_,_,y,_,_⟩
  ·have r:z.toNat=0:=by omega
   have c:=y9 (P:=P) (w:=w) (isS:=true) (len:=0) (cap:=0) (l:=0) (h:=0) (lo:=some (.int kd z)) (hi:=none) (.inr ⟨kd,z,rfl,h0,r⟩) (.inl ⟨rfl,rfl⟩) (wcq _) (wcq _);refine⟨.slice none 0 0,?_,?_⟩
   ·simp only[execOp,p];simp[s,v,d,Instr.sliceAt,Instr.slice,run_underlying A,c,sizeOf,typeInfo,g]
   ·rw[r];exact .qs id 0 _ ver _ (by rw[n];exact wcq _) λ_ _=>⟨none,0,0,none,d,rfl,wcq _,wcq _,.inl ⟨rfl,rfl⟩⟩
  ·have c:=y9 (P:=P) (w:=w) (isS:=true) (len:=m) (cap:=cap) (l:=z.toNat) (h:=m) (lo:=some (.int kd z)) (hi:=none) (.inr ⟨kd,z,rfl,h0,rfl⟩) (.inl ⟨rfl,rfl⟩) hz y;by_cases f:cap=z.toNat
   ·refine⟨.slice (some ⟨b,0,none⟩) (m-z.toNat) (cap-z.toNat),?_,?_⟩
    ·simp only[execOp,p];simp[s,v,d,Instr.sliceAt,Instr.slice,run_underlying A,c,sizeOf,typeInfo,g];simp[f]
    ·exact .qs id _ _ ver _ (by rw[n];exact wcq _) λ_ _=>⟨_,m,cap,_,d,rfl,hz,y,.inr ⟨b,0,rfl,rfl,.inr f⟩⟩
   ·refine⟨.slice (some ⟨b,z.toNat*M.size,none⟩) (m-z.toNat) (cap-z.toNat),?_,?_⟩
    ·simp only[execOp,p];simp[s,v,d,Instr.sliceAt,Instr.slice,run_underlying A,c,sizeOf,typeInfo,g,f,Jj]
    ·exact .qs id _ _ ver _ (by rw[n];exact wcq _) λ_ _=>⟨_,m,cap,_,d,rfl,hz,y,.inr ⟨b,_,rfl,rfl,.inl rfl⟩⟩
end
def small7{α:Type}(xs:List α)(ys:List α):Option (List α):=if xs.length<=10000000 then some ys else none
theorem zjj{α:Type}{xs ys a:List α}(h:small7 xs ys=some a):xs.length<=10000000/\a=ys:=by
 unfold small7 at h;split at h
 ·cases h;exact⟨by assumption,rfl⟩
 ·cases h
section
variable{P:Program}{W:Env}{n:Nat}{H:PHeap}{F:PFrame}{ops:Array Oper}{o:Oper}{l:List Oper}{K:PFrame → PHeap → Prop}{x:Operand}{ts:Array TypeId}
theorem us_of{Z:ZM}{V:Nm->Value}{w:World}{xs:List Int}{a:List Value}(h:RpL Z H V w (xs.map I) a):a=xs.map (.int .i64):=by
 apply wee;intro i;have e:=h.1;simp only[wcv]at e;by_cases c:i<xs.length
 ·have d:(xs.map I)[i]?=some (I xs[i]):=by simp[c]
  have b:a[i]?=some a[i]:=wcf (by omega);have:=rpu (h.2 i _ _ d b);rw[b,this];simp[c]
 ·rw[wdt (by omega),wdt (by simp;omega)]
theorem jhp{V:Nm->Value}{w:World}(xs:List Int):RpL W.Z H V w (xs.map I) (xs.map (.int .i64)):=by
 have:=RpL.us (W:=W) (H:=H) (V:=V) (w:=w) (xs.map (Value.int .i64));rw[wd8]at this;exact this
end
theorem jjp(v:Value)(l:List Int)(B:Nat)(w:World)(p:w.ownsRow B 3 1 v l.length (l.map (.int .i64)))(z:l.length<=10000000):
  Calls Tryz.prog 182 #[v] w λe b=>e=.returned (.tuple #[])/\b.ownsRow B 3 1 v l.length ((za6 l).map (.int .i64))/\w.grownBy b v.ownBlock:=by
 have a:(za6 l).length=l.length:=List.length_mergeSort l;rcases p.2 with⟨rfl,h0⟩|⟨g,c,q,rfl,u,o,j,d,f,k⟩
 ·have r:l=[]:=wde h0;subst r;exact(Tryz.slices_Sort_int_none none 0 w).mono λe b⟨h,x⟩=>by subst x;exact⟨h,by rw[show za6 []=[]from by simp[za6]];exact World.ownsRow_nil _ _ _ _,⟨rfl,rfl,rfl,wcq _,λ_ _ _=>rfl⟩⟩
 ·have i:g<w.heap.size:=(wdh.1 o).1;obtain⟨y,m,s,_,_,_,_,_,t⟩:=Lib.holds_of_ownsRow (enc:=Value.int .i64) p (by simp);cases s;refine(Tryz.slices_Sort_int g 0 c l w t i (by omega)).mono ?_;rintro e b ⟨h,n,os,rfl⟩;exact⟨h,ownsRow_sortedI (n:=n) (os:=os) (ts:=za6 l) a u o j d f,grownBy_sortedI _⟩
theorem z63(v:Value)(l:List Int)(B:Nat)(w:World)(n:w.ownsRow B 3 1 v l.length (l.map (.int .i64)))(E:l.length<=10000000):
  Calls Tryz.prog 183 #[v] w λe b=>∃o,e=.returned o/\b.ownsRow B 3 1 o (Vi l).length ((Vi l).map (.int .i64))/\w.grownBy b v.ownBlock/\∀g,qf o=some g->qf v=some g:=by
 have f:(Lib.compact l).length<=l.length:=Lib.compact_length_le l;rcases n.2 with⟨rfl,h0⟩|⟨g,c,r,rfl,C,a,i,x,y,m⟩
 ·have s:l=[]:=wde h0;subst s;exact(Tryz.slices_Compact_int_empty none 0 w).mono λe b⟨d,z⟩=>by subst z;exact⟨_,d,World.ownsRow_nil _ _ _ _,⟨rfl,rfl,rfl,wcq _,λ_ _ _=>rfl⟩,λg a=>a⟩
 ·obtain⟨A,p,t,_,_,_,_,_,u⟩:=Lib.holds_of_ownsRow (enc:=Value.int .i64) n (by simp);cases t;refine(Tryz.slices_Compact_int g 0 c l w u (by omega) i).mono ?_;rintro e b ⟨d,q,rfl⟩;refine⟨_,d,?_,?_,λg a=>a⟩
  ·have h:=Lib.ownsRow_putRow (q:=q) (k:=(Lib.compact l).length) (ys:=Lib.compact l++List.replicate (l.length-(Lib.compact l).length) 0) n (by simp;omega) f;rw[List.take_left]at h;exact h
  ·refine⟨rfl,rfl,rfl,by simp[Sort.putRow,Sort.mapBlock,Sort.ahead],λk D j=>?_⟩;have:g≠k:=λe=>j (by rw[<- e];rfl);simp[Sort.putRow,Sort.mapBlock,Sort.ahead,Array.getElem?_modify,this]
section
variable{W:Env}{n:Nat}{H:PHeap}{F:PFrame}{ops:Array Oper}{o:Oper}{l:List Oper}{K:PFrame → PHeap → Prop}{x:Operand}{ts:Array TypeId}
theorem wbb{f:FuncId}{id:Nm}{ver d:Nat}{xs ys:List Int}{back:Bool}{k:PV->PHeap->Prop}(ho:o.op=.call ⟨.value (.func f),#[x],ts⟩)(Q:Y4 n o)(hf:V9 Tryz.prog f=true)(hx:evP F x=.ps id ver)(O:H id=⟨ver,some (.row 3 1 xs.length (xs.map I))⟩)
  (hc:∀(v:Value)(B:Nat)(w:World),w.ownsRow B 3 1 v xs.length (xs.map (.int .i64))->Calls Tryz.prog f #[v] w λe A=>∃r l,e=.returned r/\A.ownsRow B 3 1 l ys.length (ys.map (.int .i64))/\w.grownBy A v.ownBlock/\(∀g,qf l=some g->qf v=some g)/\(if back=true then r=l else l=v/\r=.tuple #[]))
  (m:if back=true then k (.ps id (ver+1)) (H.set id ⟨ver+1,some (.row 3 1 ys.length (ys.map I))⟩)else k (.u (.tuple #[])) (H.set id ⟨ver,some (.row 3 1 ys.length (ys.map I))⟩)):PE Tryz.prog W n o F H k:=λV a w p=>by
 have q:(H id).body=some (.row 3 1 xs.length (xs.map I)):=by rw[O]
 have s:(H id).ver=ver:=by rw[O]
 obtain⟨S,c,hR,h1⟩:=p.heap.row id _ _ _ _ q;have j:=us_of hR;subst j;have R:zb2 F ⟨.value (.func f),#[x],ts⟩=some (f,[.ps id ver]):=by rw[zrq];simp[hx]
 obtain⟨vs,he,D⟩:=zbx (P:=Tryz.prog) (W:=W) (H:=H) (V:=V) (a:=a) (w:=w) ho R hf λx b1=>Rp.eval (P:=Tryz.prog) x λt R=>p.slot t;obtain⟨v,rfl,hv⟩:=rpl1 D;have M:v=V id:=by
  cases hv with
  |ps _ _ _ a9 hh=>exact hh (by rw[q];rfl) s
 subst M;have K:=Yt c;refine zj2 he ((hc (V id) _ w c).mono λe A⟨r,l,Z,N,C,J,y⟩=>⟨r,Z,?_⟩);have b:∀nv,(H id).ver<nv\/(nv=(H id).ver/\l=V id)->Turn W H V w id ⟨nv,some (.row 3 1 ys.length (ys.map I))⟩ l A:=λnv G=>by
  refine⟨p.heap.below.grown C p.heap.below.size λkk m=>(c.lt kk m).1,C.size,λT E hn=>C.block T E λX=>hn ⟨by rw[q];rfl,by rw[<- K];exact X.symm⟩,λg hg=> .inr ⟨by rw[q];rfl,J g hg⟩,?_⟩;rcases G with h|⟨h,Y⟩
  ·exact .inl h
  ·exact .inr ⟨h,Y,by rw[q];rfl⟩
 cases back
 ·simp only[wdp,if_false]at y m;obtain⟨rfl,rfl⟩:=y;refine⟨_,_,yq V id (V id),m,p.turn (b ver (.inr ⟨s.symm,rfl⟩)) (λU i=>?_) o.dst Q (.u _)⟩;cases i;exact⟨_,N,jhp ys,λu L=>by obtain⟨z,_,rfl⟩:=wcz.1 L;rfl⟩
 ·simp only[if_true]at y m;subst y;refine⟨_,_,yq V id r,m,p.turn (b (ver+1) (.inl (by omega))) (λU i=>?_) o.dst Q ?_⟩
  ·cases i;exact⟨_,N,jhp ys,λu L=>by obtain⟨z,_,rfl⟩:=wcz.1 L;rfl⟩
  ·refine .ps _ _ _ ?_ λ_ _=>?_
   ·simp[PHeap.set]
   ·simp[yq]
theorem jfu{xs:List Int}(d:xs.length<=10000000):z88 Tryz.prog 109 [slI xs] 3 1 (λn us=>n=xs.length/\us=xs.map (.int .i64)):=λw j h=>by
 obtain⟨v,rfl,g⟩:=rpl1 h;exact(jfk v xs w (rd_of (λ_=>rfl) g) d).mono λe k⟨i,a,b,c⟩=>⟨i,_,_,a,⟨rfl,rfl⟩,b,λu f=>by obtain⟨z,_,rfl⟩:=wcz.1 f;rfl,c⟩
end
end
end Go.Proofs.YtigdmmgklieofaaGreat
namespace Go.Proofs.YtigdmmgklieofaaGreat.L
noncomputable section
set_option maxRecDepth 100000
set_option maxHeartbeats 8000000
set_option linter.unusedVariables false
set_option linter.unusedSimpArgs false
open Go Go.RowKit
structure zqi{α:Type}(P:Program)(key:TypeId)(kv:α->Value)(eqb:α->α->Bool):Prop where
 chk:∀(b:Bool)(k:α)(w:World),(Instr.checkKey b 10000 key (kv k)).run P w=.ok () w
 und:∃d,P.underlying key=some d/\∀k k',Instr.sameNow d (kv k) (kv k')=none\/Instr.sameNow d (kv k) (kv k')=some (eqb k k')
 eq:∀(k k':α)(w:World),(Op.equal key (kv k) (kv k')).run P w=.ok (eqb k k') w
 beq:∀k k',eqb k k'=true->k=k'
 bits:∀k,Instr.sameBits 10000 (kv k) (kv k)=true
def Z9{α β:Type}(eqb:α->α->Bool)(k:α):List (α×β)->Nat->Option (Nat×β)
 |[],_=>none
 |e::a,i=>if eqb k e.1 then some (i,e.2)else Z9 eqb k a (i+1)
def z41{α β:Type}(eqb:α->α->Bool)(l:List (α×β))(k:α):Option β:=(Z9 eqb k l 0).map (·.2)
def jm3{α β:Type}(eqb:α->α->Bool)(l:List (α×β))(k:α)(v:β):List (α×β):=
 match Z9 eqb k l 0 with
 |some (i,_)=>l.modify i λe=>(k,v)
 |none=>l++[(k,v)]
section
variable{P:Program}{α β:Type}{key elem:TypeId}{kv:α → Value}{vv:β → Value}{eqb:α → α → Bool}
theorem z0h{d:TypeDesc}(c:∀k a,Instr.sameNow d (kv k) (kv a)=none\/Instr.sameNow d (kv k) (kv a)=some (eqb k a))(k:α):∀(es:List MapEntry)(l:List (α×β))(i:Nat),es.map (λe=>(e.key,e.val))=l.map (λe=>(kv e.1,vv e.2)) ->
  Instr.findNow d (kv k) es i=none\/Instr.findNow d (kv k) es i=some ((Z9 eqb k l i).map λr=>(r.1,vv r.2))
 |[],[],i,_ => .inr rfl
 |e::es,x::l,i,h=>by
  simp only[wc4,wf0,wfm]at h;obtain⟨⟨f,g⟩,j⟩:=h;unfold Instr.findNow Z9;rw[f,g];rcases c k x.1 with b|b<;>rw[b]
  ·exact .inl rfl
  ·cases eqb k x.1
   ·exact z0h c k es l (i+1) j
   ·exact .inr rfl
theorem zok(a:∀(k b:α)(w:World),(Op.equal key (kv k) (kv b)).run P w=.ok (eqb k b) w)(k:α)(w:World):∀(es:List MapEntry)(l:List (α×β))(i:Nat),es.map (λe=>(e.key,e.val))=l.map (λe=>(kv e.1,vv e.2)) ->
  (Instr.findAsking key (kv k) es i).run P w=.ok ((Z9 eqb k l i).map λr=>(r.1,vv r.2)) w
 |[],[],i,_=>rfl
 |e::es,x::l,i,h=>by
  simp only[wc4,wf0,wfm]at h;obtain⟨⟨c,d⟩,f⟩:=h;unfold Instr.findAsking Z9;rw[c,d];simp only[Sem.run_bind,a,Result.andThen_ok];cases eqb k x.1
  ·simpa using zok a k w es l (i+1) f
  ·rfl
theorem zf3(K:zqi P key kv eqb)(k:α)(w:World){es:List MapEntry}{l:List (α×β)}(h:es.map (λe=>(e.key,e.val))=l.map (λe=>(kv e.1,vv e.2))):
  (Instr.findKey key (kv k) es).run P w=.ok ((Z9 eqb k l 0).map λr=>(r.1,vv r.2)) w:=by
 obtain⟨d,b,c⟩:=K.und;unfold Instr.findKey;rw[Sem.run_bind,run_underlying b,Result.andThen_ok];rcases z0h (vv:=vv) c k es l 0 h with a|a
 ·rw[a];exact zok K.eq k w es l 0 h
 ·rw[a];rfl
theorem z34(K:zqi P key kv eqb){t:TypeId}(j:P.underlying t=some (.map key elem)){d:β}(hz:∀w,(zeroValue elem).run P w=.ok (vv d) w)(k:α){w:World}{b:Nat}{arr:Array MapEntry}{a:Nat}{l:List (α×β)}(g:w.heap[b]?=some (.map arr a))(h:arr.toList.map (λe=>(e.key,e.val))=l.map (λe=>(kv e.1,vv e.2)))(ok:Bool):
  (Instr.lookup t (.map (some b)) (kv k) ok).run P w=.ok (if ok then .tuple #[vv ((z41 eqb l k).getD d),.bool (z41 eqb l k).isSome]else vv ((z41 eqb l k).getD d)) w:=by
 have c:=zf3 K k w h;have f:=K.chk arr.isEmpty k w;unfold z41;cases i:Z9 eqb k l 0 with
 |none=>rw[i]at c;simp[Instr.lookup,run_underlying j,MapKept.run_getObj_map g,f,c,hz]
 |some r=>rw[i]at c;simp[Instr.lookup,run_underlying j,MapKept.run_getObj_map g,f,c]
theorem z8q{eqb:α->α->Bool}{k:α}:∀{l:List (α×β)}{i:Nat}{r:Nat×β},Z9 eqb k l i=some r->∃e,l[r.1-i]?=some e/\i<=r.1/\eqb k e.1=true
 |[],i,r,h=>by cases h
 |e::f,i,r,h=>by
  unfold Z9 at h;split at h
  ·rename_i d;cases h;exact⟨e,by simp,wcq _,d⟩
  ·obtain⟨a,b,g,c⟩:=z8q h;exact⟨a,by rw[show r.1-i=(r.1-(i+1))+1 by omega];simpa using b,by omega,c⟩
theorem zt5(K:zqi P key kv eqb){t:TypeId}(G:P.underlying t=some (.map key elem))(k:α)(v:β){w:World}{b:Nat}{arr:Array MapEntry}{a:Nat}{l:List (α×β)}(p:w.heap[b]?=some (.map arr a))(h:arr.toList.map (λe=>(e.key,e.val))=l.map (λe=>(kv e.1,vv e.2))):
  ∃f c,(Instr.mapUpdate t (.map (some b)) (kv k) (vv v)).run P w=.ok () { w with heap:=w.heap.setIfInBounds b (.map f c) }/\f.toList.map (λe=>(e.key,e.val))=(jm3 eqb l k v).map (λe=>(kv e.1,vv e.2)):=by
 have o:=zf3 K k w h;have D:=K.chk false k w;unfold jm3;cases A:Z9 eqb k l 0 with
 |none=>
  rw[A]at o;refine⟨arr.push { key:=kv k,val:=vv v,born:=a },a+1,by simp[Instr.mapUpdate,run_underlying G,MapKept.run_getObj_map p,D,o,MapKept.run_setObj_map _ p],?_⟩;simp[h]
 |some r=>
  obtain⟨i,x⟩:=r;rw[A]at o;obtain⟨e,E,_,I⟩:=z8q A;simp only[Nat.sub_zero]at E;have B:=K.beq _ _ I;have u:arr.toList[i]?.map (λe=>(e.key,e.val))=some (kv e.1,vv e.2):=by
   rw[<- wcp,h,wcp,E];rfl
  obtain⟨H,s,g⟩:=wcs.1 u;simp only[wfm]at g;have m:arr[i]?=some H:=by simpa using s
  refine⟨arr.modify i λe=>{ e with key:=kv k,val:=vv v },a,?_,?_⟩
  ·have C:(Instr.keyThatStays (kv e.1) (kv k)).run P w=.ok (kv k) w:=by
    rw[<- B];simp[Instr.keyThatStays,K.bits]
   simp[Instr.mapUpdate,run_underlying G,MapKept.run_getObj_map p,D,o,m,g.1,C,MapKept.run_setObj_map _ p]
  ·apply wee;intro j;have d:(arr.toList[j]?).map (λe=>(e.key,e.val))=(l[j]?).map (λe=>(kv e.1,vv e.2)):=by rw[<- wcp,<- wcp,h]
   simp only[Array.toList_modify,wcp,List.getElem?_modify];cases F:arr.toList[j]? with
   |none=>rw[F]at d;cases q:l[j]? with
    |none=>rfl
    |some y=>rw[q]at d;cases d
   |some y=>
    rw[F]at d;cases q:l[j]? with
    |none=>rw[q]at d;cases d
    |some z=>
     rw[q]at d;simp only[wc3,wdn,wfm]at d;by_cases n:i=j
     ·simp[n]
     ·simp[n,d]
end
section
variable{P:Program}
theorem zde{d:Nat}{t:TypeId}{D:TypeDesc}{x y:Value}{r:Bool}(a:P.underlying t=some D)(h:Instr.sameNow D x y=some r)(w:World):(Op.equalIn (d+1) t x y).run P w=.ok r w:=by
 unfold Instr.sameNow at h;split at h
 ·split at h
  ·rename_i b;cases h;subst b;simp[Op.equalIn,run_underlying a]
  ·cases h
 ·cases h;simp[Op.equalIn,run_underlying a]
 ·cases h;simp[Op.equalIn,run_underlying a]
 ·cases h
theorem zqm{D:TypeDesc}{x y:Value}{r:Bool}(h:Instr.sameNow D x y=some r):zpm D=false:=by
 unfold Instr.sameNow at h;split at h<;>first|rfl|cases h
def zcl(P:Program)(xs ys:Array Value)(f:Field):Option Bool:=
 if f.name = "_" then none else
 match P.underlying f.type,xs[f.offset]?,ys[f.offset]? with
 |some d,some x,some y=>Instr.sameNow d x y
 |_,_,_=>none
def eqS(P:Program)(t:TypeId)(xs ys:Array Value):Option (List Bool):=
 match P.underlying t with
 |some (.struct a)=>if P.stoodInHeld t then none else a.toList.mapM (zcl P xs ys)
 |_=>none
theorem zeq{t:TypeId}{D:TypeDesc}(b:P.underlying t=some D)(a:zpm D=false){cs:Array Value}{i:Nat}{v:Value}(h:cs[i]?=some v)(w:World):(part t cs i).run P w=.ok v w:=by
 unfold part;rw[Sem.run_bind,z2d b];simp[a,h]
theorem znv {xs ys : Array Value} {f : Field} {r : Bool} (h : zcl P xs ys f = some r) : f.name ≠ "_" ∧ ∃ D x y, P.underlying f.type = some D ∧ zpm D = false ∧ xs[f.offset]? = some x ∧ ys[f.offset]? = some y ∧ Instr.sameNow D x y = some r := by
 unfold zcl at h;split at h
 ·cases h
 ·rename_i d;refine⟨d,?_⟩;split at h
  ·rename_i D x y a b c;exact⟨D,x,y,a,zqm h,b,c,h⟩
  ·cases h
theorem zm6{xs ys:Array Value}{d:Nat}(w:World):∀(a:List Field)(es:List Bool),a.mapM (zcl P xs ys)=some es->(Op.eqFields (d+1) xs ys a).run P w=.ok (es.all id) w
 |[],es,h=>by
  simp at h;subst h;simp[Op.eqFields]
 |f::a,es,h=>by
  rw[we6]at h;cases b:zcl P xs ys f with
  |none=>rw[b]at h;cases h
  |some r=>
   rw[b]at h;cases c:a.mapM (zcl P xs ys)with
   |none=>rw[c]at h;cases h
   |some m=>
    rw[c]at h;cases h;obtain⟨i,D,x,y,e,g,k,l,j⟩:=znv b;unfold Op.eqFields;rw[if_pos i];simp only[Sem.run_bind,zeq e g k,zeq e g l,zde e j,Result.andThen_ok];cases r
    ·simp
    ·simpa using zm6 w a m c
theorem zwv{t:TypeId}{xs ys:Array Value}{es:List Bool}(h:eqS P t xs ys=some es):∃a,P.underlying t=some (.struct a)/\P.stoodInHeld t=false/\a.toList.mapM (zcl P xs ys)=some es:=by
 unfold eqS at h;split at h
 ·rename_i a c;split at h
  ·cases h
  ·rename_i b;exact⟨a,c,by simpa using b,h⟩
 ·cases h
theorem jdo{t:TypeId}{xs ys:Array Value}{es:List Bool}(h:eqS P t xs ys=some es)(w:World)(d:Nat):(Op.equalIn (d+2) t (.agg xs) (.agg ys)).run P w=.ok (es.all id) w:=by
 obtain⟨c,b,f,e⟩:=zwv h;have a:P.fieldsOf t=c:=by unfold Program.fieldsOf;rw[b]
 rw[run_equalIn_struct w (d+1) t xs ys (by rw[a];exact b) f,a];exact zm6 w _ _ e
theorem joy{α:Type}{t:TypeId}{kc:α->Array Value}{eb:α->α->List Bool}(o:α)(h:∀a b,eqS P t (kc a) (kc b)=some (eb a b))(u:∀a b,(eb a b).all id=true->a=b)(c:∀a,Instr.sameBits 10000 (.agg (kc a)) (.agg (kc a))=true):zqi P t (λa=> .agg (kc a)) (λa b=>(eb a b).all id) where
 chk:=λb k w=>by
  obtain⟨s,j,G,z⟩:=zwv (h k k);unfold Instr.checkKey;simp only[Sem.run_bind,run_underlying j,Result.andThen_ok];rw[<- Array.forIn_toList];have m : ∀ (l : List Field) (g : List Bool), l.mapM (zcl P (kc k) (kc k)) = some g → ∀ (n : Nat), (forIn l PUnit.unit fun f (_ : PUnit) => (if f.name ≠ "_" then do Instr.checkKey b (n + 1) f.type (← part f.type (kc k) f.offset); pure (ForInStep.yield PUnit.unit) else pure (ForInStep.yield PUnit.unit) : Sem (ForInStep PUnit))).run P w = .ok PUnit.unit w := by
   intro l;induction l with
   |nil=>intro g _ n;simp
   |cons f l E=>
    intro g e n;rw[we6]at e;cases i:zcl P (kc k) (kc k) f with
    |none=>rw[i]at e;cases e
    |some r=>
     rw[i]at e;cases p:l.mapM (zcl P (kc k) (kc k))with
     |none=>rw[p]at e;cases e
     |some F=>
      obtain⟨A,D,x,y,q,B,C,H,d⟩:=znv i;have v:(Instr.checkKey b (n+1) f.type x).run P w=.ok () w:=by
       unfold Instr.checkKey;simp only[Sem.run_bind,run_underlying q,Result.andThen_ok];unfold Instr.sameNow at d;split at d<;>first|rfl|cases d
      rw[List.forIn_cons,if_pos A];simp only[Sem.run_bind,zeq q B C,v,Result.andThen_ok,Sem.run_pure];exact E F p n
  have:=m _ _ z 9998;simp only[Nat.reduceAdd]at this;rw[this];rfl
 und:=by
  obtain⟨s,j,_,_⟩:=zwv (h o o);exact⟨_,j,λk I=> .inl rfl⟩
 eq:=λa b w=>jdo (h a b) w 9998
 beq:=u
 bits:=c
theorem zx9(c:Nat->Bool)(body:Nat->Option Bool×Unit->Sem (ForInStep (Option Bool×Unit)))(w:World):∀(l:List Nat),(∀i∈l,(body i (none,())).run P w=.ok (if c i then .yield (none,())else .done (some false,())) w) ->
  (forIn l ((none,()):Option Bool×Unit) body).run P w=.ok (if l.all c then none else some false,()) w
 |[],_=>by simp
 |i::l,h=>by
  rw[List.forIn_cons,Sem.run_bind,h i (by simp)];cases a:c i
  ·simp[a]
  ·simpa [a]using zx9 c body w l λj b=>h j (by simp[b])
theorem joe{t e:TypeId}{n:Nat}{D:TypeDesc}{xs ys:Array Value}{c:Nat->Bool}(l:P.underlying t=some (.array n e))(b:P.underlying e=some D)(k:∀w,(sizeOf e).run P w=.ok 1 w)(h:∀i,i<n->∃x y,xs[i]?=some x/\ys[i]?=some y/\Instr.sameNow D x y=some (c i))(w:World)(d:Nat):
  (Op.equalIn (d+2) t (.agg xs) (.agg ys)).run P w=.ok ((List.range n).all c) w:=by
 rw[Op.equalIn];simp only[Sem.run_bind,run_underlying l,Result.andThen_ok,k];rw[Std.Legacy.Range.forIn_eq_forIn_range'];have f:List.range' ([:n]:Std.Legacy.Range).start ([:n]:Std.Legacy.Range).size ([:n]:Std.Legacy.Range).step=List.range n:=by
  simp[Std.Legacy.Range.size,wfi]
 rw[f];have g:=zx9 (P:=P) c (λi r=>do
   if(!(<- Op.equalIn (d+1) e (<- part e xs (i*1)) (<- part e ys (i*1))))=true then pure (ForInStep.done (some false,()))else pure (ForInStep.yield (none,()))) w (List.range n) λi j=>by
  obtain⟨x,y,m,o,a⟩:=h i (wef.1 j);simp only[wf1,Sem.run_bind,zeq b (zqm a) m,zeq b (zqm a) o,zde b a,Result.andThen_ok];cases c i<;>simp
 rw[g];cases(List.range n).all c<;>simp
end
end
end Go.Proofs.YtigdmmgklieofaaGreat.L
namespace Go.Proofs.YtigdmmgklieofaaGreat
noncomputable section
set_option maxRecDepth 100000
set_option maxHeartbeats 8000000
set_option linter.unusedVariables false
set_option linter.unusedSimpArgs false
open Go Go.RowKit L
section
variable{P:Program}{W:Env}{n:Nat}{H:PHeap}{F:PFrame}{ops:Array Oper}{o:Oper}{l:List Oper}{K:PFrame → PHeap → Prop}
variable{d ty t' : Nat}{pos:String}{af:Array Edge}{g:Option (Nat × Bool)}{x y:Operand}{t:Nat}
theorem jep{a b:List Int}{n:Nat}(e:a.length=n)(f:b.length=n):((List.range n).all λi=>a.getD i 0 == b.getD i 0)=(a == b):=by
 rw[Bool.eq_iff_iff,wdx,beq_iff_eq];constructor
 ·intro h;apply wfp (by omega);intro i c d;have:=h i (wef.2 (by omega));simpa [List.getD,c,d]using this
 ·intro h i _;rw[h];simp
theorem jja{e m:Nat}{kd:IntKind}(l:P.underlying t=some (.array m e))(j:P.underlying e=some (.int kd))(k:∀w,(sizeOf e).run P w=.ok 1 w)(a b:Arr m Int)(w:World):
  (Op.equal t (.agg (a.1.map (Value.int kd)).toArray) (.agg (b.1.map (Value.int kd)).toArray)).run P w=.ok (a.1 == b.1) w:=by
 have h:=joe (P:=P) (c:=λi=>a.1.getD i 0 == b.1.getD i 0) (xs:=(a.1.map (Value.int kd)).toArray) (ys:=(b.1.map (Value.int kd)).toArray) l j k (λi g=>by
  have d:i<a.1.length:=by rw[a.2];exact g
  have f:i<b.1.length:=by rw[b.2];exact g
  exact⟨.int kd a.1[i],.int kd b.1[i],by simp[d],by simp[f],by simp[Instr.sameNow,List.getD,d,f]⟩) w 9998
 rw[jep a.2 b.2]at h;exact h
def jnu(a b:ByteArray):Option ByteArray:=if((a.size+b.size:Nat):Int)<=9223372036854775807 then some (a++b)else none
theorem b_addS{a b r:ByteArray}(h:jnu a b=some r):zi P .add t x y (.u (.string a)) (.u (.string b))=some (.u (.string r)):=by
 unfold jnu at h;split at h
 ·rename_i c;cases h;have:¬((a.size+b.size:Nat):Int) > IntKind.i64.max:=by simp only[IntKind.max,IntKind.bits]at *;omega
  simp only[zi,PV.val2,eqGuard,binOp,qu,q6,Op.stringOp,ofV,if_neg this];rfl
 ·cases h
def bltS(a b:ByteArray):Bool:=Op.bytesLess a.toList b.toList
theorem b_lssS(a b:ByteArray):zi P .lss t x y (.u (.string a)) (.u (.string b))=some (.u (.bool (bltS a b))):=by
 simp[zi,PV.val2,eqGuard,binOp,qu,q6,Op.stringOp,ofV,bltS]
def zsd(k:IntKind)(a b:Int):Option Int:=if b=0 then none else some (k.wrap (a.tdiv b))
def zp6(k:IntKind)(a b:Int):Option Int:=if b=0 then none else some (a.tmod b)
theorem b_quo{k:IntKind}{a b r:Int}(h:zsd k a b=some r):zi P .quo t x y (.u (.int k a)) (.u (.int k b))=some (.u (.int k r)):=by
 unfold zsd at h;split at h
 ·cases h
 ·rename_i c;cases h;simp[zi,PV.val2,eqGuard,binOp,qu,q6,Op.intDiv,c,ofV]
theorem b_rem{k:IntKind}{a b r:Int}(h:zp6 k a b=some r):zi P .rem t x y (.u (.int k a)) (.u (.int k b))=some (.u (.int k r)):=by
 unfold zp6 at h;split at h
 ·cases h
 ·rename_i c;cases h;simp[zi,PV.val2,eqGuard,binOp,qu,q6,Op.intDiv,c,ofV]
end
section
variable{P:Program}{x y:Operand}{t t' : Nat}
def zy9(k:IntKind)(a b:Int):Int:=k.wrap ((BitVec.ofInt k.bits a &&& BitVec.ofInt k.bits b).toNat)
def orI(k:IntKind)(a b:Int):Int:=k.wrap ((BitVec.ofInt k.bits a |||BitVec.ofInt k.bits b).toNat)
def xorI(k:IntKind)(a b:Int):Int:=k.wrap ((BitVec.ofInt k.bits a ^^^ BitVec.ofInt k.bits b).toNat)
def z3g(k:IntKind)(a b:Int):Int:=k.wrap ((BitVec.ofInt k.bits a &&& ~~~(BitVec.ofInt k.bits b)).toNat)
def z3u(k:IntKind)(a b:Int):Option Int:=if b<0 then none else some (k.wrap (a*2 ^ (min b.toNat k.bits)))
def zre(k:IntKind)(a b:Int):Option Int:=if b<0 then none else some (a.fdiv (2 ^ (min b.toNat k.bits)))
theorem b_and{k:IntKind}(a b:Int):zi P .and t x y (.u (.int k a)) (.u (.int k b))=some (.u (.int k (zy9 k a b))):=by simp[zi,PV.val2,eqGuard,binOp,qu,q6,Op.intBits,ofV,zy9]
theorem b_or{k:IntKind}(a b:Int):zi P .or t x y (.u (.int k a)) (.u (.int k b))=some (.u (.int k (orI k a b))):=by simp[zi,PV.val2,eqGuard,binOp,qu,q6,Op.intBits,ofV,orI]
theorem b_xor{k:IntKind}(a b:Int):zi P .xor t x y (.u (.int k a)) (.u (.int k b))=some (.u (.int k (xorI k a b))):=by simp[zi,PV.val2,eqGuard,binOp,qu,q6,Op.intBits,ofV,xorI]
theorem jh9{k:IntKind}(a b:Int):zi P .andNot t x y (.u (.int k a)) (.u (.int k b))=some (.u (.int k (z3g k a b))):=by simp[zi,PV.val2,eqGuard,binOp,qu,q6,Op.intBits,ofV,z3g]
theorem b_shl{k d:IntKind}{a b r:Int}(h:z3u k a b=some r):zi P .shl t x y (.u (.int k a)) (.u (.int d b))=some (.u (.int k r)):=by
 unfold z3u at h;split at h
 ·cases h
 ·rename_i c;cases h;simp[zi,PV.val2,eqGuard,binOp,qu,q6,Op.shift,c,ofV]
theorem b_shr{k d:IntKind}{a b r:Int}(h:zre k a b=some r):zi P .shr t x y (.u (.int k a)) (.u (.int d b))=some (.u (.int k r)):=by
 unfold zre at h;split at h
 ·cases h
 ·rename_i c;cases h;simp[zi,PV.val2,eqGuard,binOp,qu,q6,Op.shift,c,ofV]
end
end
end Go.Proofs.YtigdmmgklieofaaGreat
namespace Go.Proofs.YtigdmmgklieofaaGreat.L
noncomputable section
set_option maxRecDepth 100000
set_option maxHeartbeats 8000000
set_option linter.unusedVariables false
set_option linter.unusedSimpArgs false
open Go Go.RowKit
section
variable{P:Program}{W:Env}{n:Nat}{H:PHeap}{F:PFrame}
def PHeap.only(H:PHeap)(D:Nm->Bool):PHeap:=λi=>if D i then H i else⟨(H i).ver,none⟩
def jbh(H a:PHeap)(D:Nm->Bool):Prop:=∀i,(D i=false->a i=H i)/\(D i=true->(a i).body=none/\(H i).ver<=(a i).ver)
def Env.kept(W:Env)(H:PHeap)(V:Nm->Value)(D:Nm->Bool):Env:={ W with Z:=⟨λb=>W.Z b\/∃id,D id=false/\(H id).body.isSome=true/\qf (V id)=some b,W.Z.m⟩ }
theorem z0x{D:Nm->Bool}{i:Nm}{bd:PBody}(h:((H.only D) i).body=some bd):D i=true/\(H i).body=some bd:=by
 unfold PHeap.only at h;cases a:D i
 ·simp[a]at h
 ·simp only[a,if_true]at h;exact⟨rfl,h⟩
theorem zbn{D:Nm->Bool}{i:Nm}(h:((H.only D) i).body.isSome=true):D i=true/\(H i).body.isSome=true:=by
 cases a:((H.only D) i).body with
 |none=>rw[a]at h;cases h
 |some d=>obtain⟨b,c⟩:=z0x a;exact⟨b,by rw[c];rfl⟩
theorem zqc{a:PHeap}{D:Nm->Bool}{i:Nm}{bd:PBody}(c:jbh H a D)(h:(a i).body=some bd):D i=false/\(H i).body=some bd:=by
 cases b:D i with
 |true=>rw[((c i).2 b).1]at h;cases h
 |false=>rw[(c i).1 b]at h;exact⟨rfl,h⟩
theorem zbh{a:PHeap}{D:Nm->Bool}{i:Nm}(e:jbh H a D)(h:(a i).body.isSome=true):D i=false/\(H i).body.isSome=true:=by
 obtain⟨f,d⟩:=wdi.1 h;obtain⟨b,c⟩:=zqc e d;exact⟨b,by rw[c];rfl⟩
theorem Rp.only{D:Nm->Bool}{V:Nm->Value}{w:World}{p:PV}{v:Value}(h:Rp W.Z H V w p v):Rp (W.kept H V D).Z (H.only D) V w p v:=
 h.mono (λb hz e=>⟨λc=>by
  rcases c with(c|⟨id,_,a,d⟩)|⟨id,a,d⟩
  ·exact hz (.inl c)
  ·exact hz (.inr ⟨id,a,d⟩)
  ·exact hz (.inr ⟨id,(zbn a).2,d⟩),e,rfl⟩) (wcq _) (λid=>by unfold PHeap.only;split<;>exact wcq _) (λid i j f a=>by
  obtain⟨d,g⟩:=zbn f;refine⟨g,?_,rfl⟩;unfold PHeap.only at a;rw[d]at a;simpa using a)
theorem Rp.less{g:PHeap}{D:Nm->Bool}(c:jbh H g D){V:Nm->Value}{w:World}{p:PV}{v:Value}(h:Rp W.Z H V w p v):Rp W.Z g V w p v:=
 h.mono (λb hz f=>⟨λa=>by
  rcases a with a|⟨id,d,e⟩
  ·exact hz (.inl a)
  ·exact hz (.inr ⟨id,(zbh c d).2,e⟩),f,rfl⟩) (wcq _) (λid=>by
  cases i:D id with
  |true=>exact((c id).2 i).2
  |false=>rw[(c id).1 i];exact wcq _) (λid l m j d=>by
  obtain⟨e,k⟩:=zbh c j;rw[(c id).1 e]at d;exact⟨k,d,rfl⟩)
theorem HRel.only{D:Nm->Bool}{V:Nm->Value}{w:World}(c:HRel P W H V w):HRel P (W.kept H V D) (H.only D) V w:=by
 refine⟨c.below,λi f h=>?_,λi=>(c.ghost i).only,λi j g d a=>c.apart i j g (zbn d).2 (zbn a).2,λb hz=>?_,λi b d a hz=>?_⟩
 ·obtain⟨n,d,a⟩:=c.body i f (z0x h).2;exact⟨n,d,a.mono λp u m=>m.only⟩
 ·rcases hz with hz|⟨id,_,a,e⟩
  ·exact c.zlt b hz
  ·exact(c.own_lt a e).2
 ·rcases hz with hz|⟨id,e,k,l⟩
  ·exact c.nz i b (zbn d).2 a hz
  ·have:=c.apart i id b (zbn d).2 k a l;subst this;rw[(zbn d).1]at e;cases e
theorem HRel.less{f:PHeap}{D:Nm->Bool}(a:jbh H f D){V:Nm->Value}{w:World}(c:HRel P W H V w):HRel P W f V w:=by
 refine⟨c.below,λi k h=>?_,λi=>(c.ghost i).less a,λi j g d e=>c.apart i j g (zbh a d).2 (zbh a e).2,c.zlt,λi b d e=>c.nz i b (zbh a d).2 e⟩;obtain⟨m,d,e⟩:=c.body i k (zqc a h).2;exact⟨m,d,e.mono λp u l=>l.less a⟩
end
section
variable{α β:Type}{kv:α → Value}{eqb:α → α → Bool}
def kIx(eqb:α->α->Bool)(k:α):List α->Option Nat
 |[]=>none
 |e::a=>if eqb k e then some 0 else(kIx eqb k a).map (· + 1)
theorem zar{k:α}:∀{ks:List α}{j:Nat},kIx eqb k ks=some j->∃e,ks[j]?=some e/\eqb k e=true
 |[],j,h=>by cases h
 |e::g,j,h=>by
  unfold kIx at h;split at h
  ·rename_i d;cases h;exact⟨e,rfl,d⟩
  ·obtain⟨i,f,rfl⟩:=wcs.1 h;obtain⟨a,b,c⟩:=zar f;exact⟨a,by simpa using b,c⟩
theorem z0g{k:α}:∀{ks:List α}{vs:List β}{i:Nat},ks.length=vs.length->Z9 eqb k (ks.zip vs) i=(kIx eqb k ks).bind λj=>(vs[j]?).map λv=>(i+j,v)
 |[],[],i,_=>rfl
 |e::a,v::vs,i,h=>by
  simp only[List.zip_cons_cons,Z9,kIx];split
  ·simp
  ·rw[z0g (by simpa using h)];cases kIx eqb k a with
   |none=>rfl
   |some j=>
    simp only[wc3,wdr,we3];cases vs[j]? with
    |none=>rfl
    |some u=>simp only[wc3,wdn,wfm,and_true];omega
end
def mapRφ(ks:List Value)(bs:List Nat)(clock:Nat):Nat->Obj->List Value->Prop:=λ_ o a=>∃arr,o=.map arr clock/\arr.toList.map (·.key)=ks/\arr.toList.map (·.val)=a/\arr.toList.map (·.born)=bs/\bs.Nodup/\∀b∈bs,b<clock
def Qq(ks:List Value)(bs:List Nat)(clock:Nat)(cs:List PV):PBody :=.raw false cs (mapRφ ks bs clock)
def itφ(a:List Bool)(last:Option Nat):Nat->Obj->List Value->Prop:=λ_ o e=>∃(b:Nat)(c:Array Nat),e=[.map (some b)]/\o=.mapIter (some b) a.length c a.length/\(∀i,c.contains i=(a[i]?).getD false)/\∀j,last=some j->∃d:Array Nat,c=d.push j
def itB(id:Nm)(ver:Nat)(a:List Bool)(last:Option Nat):PBody :=.raw true [.ps id ver] (itφ a last)
theorem zvh{w:World}{g:Nat}{o:Obj}(h:w.heap[g]?=some o):{ w with heap:=w.heap.setIfInBounds g o }=w:=by
 have:w.heap.setIfInBounds g o=w.heap:=by
  apply Array.ext_getElem?;intro i;by_cases e:g=i
  ·subst e;have a:=(wdh.1 h).1;simp[Array.getElem?_setIfInBounds,a,h];exact((wdh.1 h).2).symm
  ·simp[Array.getElem?_setIfInBounds,e]
 rw[this]
section
variable{P:Program}{W:Env}{n:Nat}{H:PHeap}{F:PFrame}{o:Oper}{K:PV → PHeap → Prop}
variable{α:Type}{key elem:TypeId}{kv:α → Value}{eqb:α → α → Bool}{x y z:Operand}{t:TypeId}{id:Nm}{ver clock:Nat}{ks:List α}{bs:List Nat}{cs:List PV}
theorem zkl{a:List Value}{V:Nm->Value}{w:World}{v:Value}(c:H id=⟨ver,some (Qq a bs clock cs)⟩)(n:HRel P W H V w)(p:Rp W.Z H V w (.ps id ver) v):
  ∃g arr,v=.map (some g)/\V id=.map (some g)/\W.w.heap.size<=g/\w.heap[g]?=some (.map arr clock)/\arr.toList.map (·.key)=a/\RpL W.Z H V w cs (arr.toList.map (·.val))/\arr.toList.map (·.born)=bs/\bs.Nodup/\∀b∈bs,b<clock:=by
 obtain⟨g,o,r,e,k,l,⟨arr,rfl,d,rfl,f,h,i⟩,j⟩:=n.map id false cs _ (by rw[c];rfl);cases p with
 |ps _ _ _ q m=>
  have:=m (by rw[c];rfl) (by rw[c]);exact⟨g,arr,by rw[this,e];rfl,e,k,l,d,j,f,h,i⟩
theorem jl4{arr:Array MapEntry}(h:arr.toList.map (·.key)=ks.map kv):arr.toList.map (λe=>(e.key,e.val))=(ks.zip (arr.toList.map (·.val))).map λe=>(kv e.1,(λv:Value=>v) e.2):=by
 generalize arr.toList=l at h;clear arr;induction l generalizing ks with
 |nil=>cases ks with
  |nil=>rfl
  |cons _ _=>simp at h
 |cons e l a=>cases ks with
  |nil=>simp at h
  |cons k ks=>
   simp only[wc4,wf0]at h;simp only[wc4,List.zip_cons_cons,h.1,wf0,true_and];exact a h.2
theorem zxl(a:zqi P key kv eqb)(k:α)(w:World){arr:Array MapEntry}(h:arr.toList.map (·.key)=ks.map kv):(Instr.findKey key (kv k) arr.toList).run P w=.ok ((kIx eqb k ks).bind λj=>(arr.toList[j]?).map λe=>(j,e.val)) w:=by
 have b:ks.length=(arr.toList.map (·.val)).length:=by have:=congrArg List.length h;simpa using this.symm
 rw[zf3 (vv:=λv:Value=>v) a k w (jl4 h),z0g b];congr 1;cases kIx eqb k ks with
 |none=>rfl
 |some j=>
  simp only[wdr,wcp,wdo];cases arr.toList[j]?<;>rfl
theorem wbg(B:zqi P key kv eqb)(M:o.op=.mapEntry t x y)(ht:P.underlying t=some (.map key elem))(S:H id=⟨ver,some (Qq (ks.map kv) bs clock cs)⟩)(hx:evP F x=.ps id ver){k:α}(X:∀(Z:ZM)(V:Nm->Value)(w:World)(v:Value),Rp Z H V w (evP F y) v->v=kv k){j b:Nat}{c:PV}(R:kIx eqb k ks=some j)(U:cs[j]?=some c)(E:bs[j]?=some b):
  PQ P W o F H (.tup [c,.u (.int .i64 (b:Nat))]):=waf λV a w hw Q=>by
 have A:=Q x (by rw[M];simp[Op.operands]);have N:=X _ _ _ _ (Q y (by rw[M];simp[Op.operands]));rw[hx]at A;obtain⟨g,arr,hv,hV,hg,D,f,T,m,J,Y⟩:=zkl S hw A;obtain⟨e,z,G⟩:=zar R;have K:=B.beq _ _ G;have I:j<arr.toList.length:=by
  have l:=congrArg List.length f;have q:=(wcg.1 z).1;simp at l⊢;omega
 obtain⟨h,d⟩:∃h,arr.toList[j]?=some h:=⟨_,wcf I⟩
 have r:arr[j]?=some h:=by simpa using d
 have s:h.key=kv k:=by
  have:(arr.toList.map (·.key))[j]?=(ks.map kv)[j]?:=by rw[f]
  rw[wcp,wcp,d,z]at this;simp only[wc3,wdn]at this;rw[this,K]
 have C:h.born=b:=by
  have:(arr.toList.map (·.born))[j]?=bs[j]?:=by rw[m]
  rw[wcp,d,E]at this;simpa using this
 have n:arr.modify j (λe=>{ e with key:=kv k })=arr:=by
  apply Array.ext';rw[Array.toList_modify,Go.ChangeMaps.modify_eq_set _ _ _ _ d];have:({ h with key:=kv k }:MapEntry)=h:=by rw[<- s]
  rw[this];exact WideElems.set_self _ _ _ d
 refine⟨.tuple #[h.val,.int .i64 (b:Nat)],?_,?_⟩
 ·have L:(Instr.keyThatStays (kv k) (kv k)).run P w=.ok (kv k) w:=by simp[Instr.keyThatStays,B.bits]
  have O:=zxl B k w f;rw[R,wdr,d,wc3]at O;have:(Instr.mapEntry t (.map (some g)) (kv k)).run P w=.ok (.tuple #[h.val,goInt h.born]) w:=by
   simp[Instr.mapEntry,run_underlying ht,MapKept.run_getObj_map D,B.chk,O,r,s,L,n,MapKept.run_setObj_map _ D,zvh D]
  simp only[execOp,M,hv,N,Sem.run_bind,this,Result.andThen_ok,C];rfl
 ·refine .tup _ _ rfl λi p v l q=>?_
  match i,l,q with
  |0,l,q=>
   cases l;cases q;exact T.2 j c h.val U (by rw[wcp,d];rfl)
  |1,l,q=>cases l;cases q;exact .u _
theorem z7s{V:Nm->Value}{w:World}{g:Nat}{i:Obj}{bd:PBody}(n:HRel P W H V w)(c:∃bd,H id=⟨ver,some bd⟩)(k:qf (V id)=some g)(p:W.w.heap.size<=g):Turn W H V w id ⟨ver,some bd⟩ (V id) { w with heap:=w.heap.setIfInBounds g i }:=by
 obtain⟨j,c⟩:=c;have f:(H id).body.isSome=true:=by rw[c];rfl
 have a:∀b,b≠g->(w.heap.setIfInBounds g i)[b]?=w.heap[b]?:=λb h=>by simp[Ne.symm h]
 exact⟨n.below.trans ⟨rfl,rfl,rfl,by simp,λb l=>a b (by omega)⟩,by simp,λb l m=>a b λe=>m ⟨f,by rw[e,k]⟩,λo d=> .inr ⟨f,d⟩,.inr ⟨by rw[c],rfl,f⟩⟩
theorem wbc(O:zqi P key kv eqb)(ho:o.op=.mapEntry t x y)(hd:Y4 n o)(ht:P.underlying t=some (.map key elem)){d:Value}(hz:∀w,(zeroValue elem).run P w=.ok d w)(Q:H id=⟨ver,some (Qq (ks.map kv) bs clock cs)⟩)(hx:evP F x=.ps id ver){k:α}(hk:∀(Z:ZM)(V:Nm->Value)(w:World)(v:Value),Rp Z H V w (evP F y) v->v=kv k)(hj:kIx eqb k ks=none)
  (Y:K (.tup [.u d,.u (.int .i64 (clock:Nat))]) (H.set id ⟨ver,some (Qq ((ks++[k]).map kv) (bs++[clock]) (clock+1) (cs++[.u d]))⟩)):PE P W n o F H K:=λV a w E=>by
 have ev:∀(x:Operand),Rp W.Z H V w (evP F x) (a.eval x):=λx=>Rp.eval (P:=P) x λt _=>E.slot t;have D:=ev x;have N:=hk _ _ _ _ (ev y);rw[hx]at D;obtain⟨g,arr,hv,S,U,z,j,R,r,M,A⟩:=zkl Q E.heap D;have L:=(wdh.1 z).1;have T:=zxl O k w j;rw[hj,Option.bind_none]at T;have B:(Instr.mapEntry t (.map (some g)) (kv k)).run P w=.ok (.tuple #[d,goInt clock]) { w with heap:=w.heap.setIfInBounds g (.map (arr.push ⟨kv k,d,clock⟩) (clock+1)) }:=by
  simp[Instr.mapEntry,run_underlying ht,MapKept.run_getObj_map z,O.chk,T,hz,MapKept.run_setObj_map _ z]
 have I:(execOp a.eval o).run P w=.ok (.value (.tuple #[d,goInt clock])) { w with heap:=w.heap.setIfInBounds g (.map (arr.push ⟨kv k,d,clock⟩) (clock+1)) }:=by
  simp only[execOp,ho,hv,N,Sem.run_bind,B,Result.andThen_ok];rfl
 have l:Turn W H V w id ⟨ver,some (Qq ((ks++[k]).map kv) (bs++[clock]) (clock+1) (cs++[.u d]))⟩ (V id) { w with heap:=w.heap.setIfInBounds g (.map (arr.push ⟨kv k,d,clock⟩) (clock+1)) }:=z7s E.heap ⟨_,Q⟩ (by rw[S];rfl) U;refine yv I ⟨_,_,yq V id (V id),Y,?_⟩;refine E.turn l (λbd G=>?_) o.dst hd (.tup _ _ rfl λi p v f s=>?_)
 ·cases G;refine⟨g,.map (arr.push ⟨kv k,d,clock⟩) (clock+1),_,S,U,by simp[L],⟨arr.push ⟨kv k,d,clock⟩,rfl,by simp[j],rfl,by simp[r],?_,λb z=>?_⟩,?_⟩
  ·rw[wfu];exact⟨M,by simp,λa J c hc e=>by simp at hc;have:=A a J;omega⟩
  ·rcases wco.1 z with h|h
   ·have:=A b h;omega
   ·simp at h;omega
  ·have f:RpL W.Z (H.set id ⟨ver,some (Qq ((ks++[k]).map kv) (bs++[clock]) (clock+1) (cs++[.u d]))⟩) (yq V id (V id)) { w with heap:=w.heap.setIfInBounds g (.map (arr.push ⟨kv k,d,clock⟩) (clock+1)) } cs (arr.toList.map (·.val)):=⟨R.1,λi p v m q=>l.rp (R.2 i p v m q)⟩
   have C:(arr.push ⟨kv k,d,clock⟩).toList.map (·.val)=arr.toList.map (·.val)++[d]:=by simp
   rw[C];refine⟨by rw[wcu,wcu,f.1];rfl,λi p v m q=>?_⟩;by_cases X:i<cs.length
   ·rw[wcr X]at m;rw[wcr (by rw[<- f.1];exact X)]at q;exact f.2 i p v m q
   ·rw[wct (by omega)]at m;rw[wct (by rw[<- f.1];omega),<- f.1]at q
    match hq:i-cs.length,m,q with
    |0,m,q=>cases m;cases q;exact .u _
    |_+1,m,q=>simp at m
 ·match i,f,s with
  |0,f,s=>cases f;cases s;exact .u _
  |1,f,s=>cases f;cases s;exact .u _
theorem PE.entryStore{r:List Value}{s:Operand}{p:PV}{j b:Nat}(ho:o.op=.entryStore t x s y)(hd:Y4 n o)(X:H id=⟨ver,some (Qq r bs clock cs)⟩)(hx:evP F x=.ps id ver)(hs:evP F s=.u (.int .i64 (b:Nat)))(Q:bs[j]?=some b)(hy:evP F y=p)
  (hK:K (.u undef) (H.set id ⟨ver,some (Qq r bs clock (cs.set j p))⟩)):PE P W n o F H K:=λV a w I=>by
 have ev:∀(x:Operand),Rp W.Z H V w (evP F x) (a.eval x):=λx=>Rp.eval (P:=P) x λt _=>I.slot t;have E:=ev x;have G:=ev y;have U:a.eval s=.int .i64 (b:Nat):=by
  have:=ev s;rw[hs]at this;generalize a.eval s=q at this;cases this;rfl
 rw[hx]at E;rw[hy]at G;obtain⟨g,arr,hv,J,hg,N,m,Y,c,C,T⟩:=zkl X I.heap E;have S:=(wdh.1 N).1;obtain⟨L,A,M⟩:∃L,arr.toList[j]?=some L/\L.born=b:=by
  have:(arr.toList.map (·.born))[j]?=some b:=by rw[c];exact Q
  rw[wcp]at this;exact wcs.1 this
 have B:arr.findIdx? (λe=>((e.born:Nat):Int) == ((b:Nat):Int))=some j:=by
  rw[WideElems.findIdx_arr,<- M];exact WideElems.findIdx_born (by rw[c];exact C) A
 have D:(Instr.entryStore t (.map (some g)) (.int .i64 (b:Nat)) (a.eval y)).run P w=.ok () { w with heap:=w.heap.setIfInBounds g (.map (arr.modify j λe=>{ e with val:=a.eval y }) clock) }:=by
  simp[Instr.entryStore,MapKept.run_getObj_map N,asInt,asIntOf,B,MapKept.run_setObj_map _ N,Result.andThen]
 have R:(execOp a.eval o).run P w=.ok .skip { w with heap:=w.heap.setIfInBounds g (.map (arr.modify j λe=>{ e with val:=a.eval y }) clock) }:=by
  simp only[execOp,ho,hv,U,Sem.run_bind,D,Result.andThen_ok];rfl
 have d:Turn W H V w id ⟨ver,some (Qq r bs clock (cs.set j p))⟩ (V id) { w with heap:=w.heap.setIfInBounds g (.map (arr.modify j λe=>{ e with val:=a.eval y }) clock) }:=z7s I.heap ⟨_,X⟩ (by rw[J];rfl) hg;have k:∀{γ:Type}(f:MapEntry->γ),(∀e v,f { e with val:=v }=f e)->(arr.modify j λe=>{ e with val:=a.eval y }).toList.map f=arr.toList.map f:=λf hf=>by
  apply wee;intro i;simp only[Array.toList_modify,wcp,List.getElem?_modify];cases arr.toList[i]? with
  |none=>rfl
  |some e=>
   simp only[wc3];by_cases z:j=i
   ·simp[z,hf]
   ·simp[z]
 unfold Oper.wp;rw[R];refine⟨.u undef,_,yq V id (V id),hK,I.turn d (λbd O=>?_) o.dst hd (.u _)⟩;cases O;refine⟨g,.map (arr.modify j λe=>{ e with val:=a.eval y }) clock,_,J,hg,by simp[S],⟨_,rfl,by rw[k _ λ_ _=>rfl];exact m,rfl,by rw[k _ λ_ _=>rfl];exact c,C,T⟩,?_⟩;refine⟨by rw[web,Y.1];simp,λi q v l h=>?_⟩;simp only[Array.toList_modify,wcp,List.getElem?_modify]at h;rw[wc8]at l;by_cases z:j=i
 ·subst z;rw[A]at h;have h:a.eval y=v:=by simpa using h
  simp only[if_true]at l;split at l
  ·cases l;subst h;exact d.rp G
  ·cases l
 ·rw[if_neg z]at l;have h5:(arr.toList.map (·.val))[i]?=some v:=by
   rw[wcp];cases ha:arr.toList[i]? with
   |none=>rw[ha]at h;simp at h
   |some e=>rw[ha]at h;simpa [z]using h
  exact d.rp (Y.2 i q v l h5)
theorem wbx(q:zqi P key kv eqb)(n:o.op=.lookup t x y false)(L:P.underlying t=some (.map key elem))(A:H id=⟨ver,some (Qq (ks.map kv) bs clock cs)⟩)(O:evP F x=.ps id ver){k:α}(G:∀(Z:ZM)(V:Nm->Value)(w:World)(v:Value),Rp Z H V w (evP F y) v->v=kv k){j:Nat}{c:PV}(u:kIx eqb k ks=some j)(D:cs[j]?=some c):
  PQ P W o F H c:=waf λV a w N s=>by
 have h:=s x (by rw[n];simp[Op.operands]);have p:=G _ _ _ _ (s y (by rw[n];simp[Op.operands]));rw[O]at h;obtain⟨g,arr,M,R,S,C,b,B,i,K,I⟩:=zkl A N h;obtain⟨e,l,E⟩:=zar u;have m:j<arr.toList.length:=by
  have z:=congrArg List.length b;have Q:=(wcg.1 l).1;simp at z⊢;omega
 obtain⟨d,f⟩:∃d,arr.toList[j]?=some d:=⟨_,wcf m⟩
 have r:=zxl q k w b;rw[u,wdr,f,wc3]at r;refine⟨d.val,?_,B.2 j c d.val D (by rw[wcp,f];rfl)⟩;have:(Instr.lookup t (.map (some g)) (kv k) false).run P w=.ok d.val w:=by
  simp[Instr.lookup,run_underlying L,MapKept.run_getObj_map C,q.chk,r]
 simp only[execOp,n,M,p,Sem.run_bind,this,Result.andThen_ok];rfl
theorem wb0{B:List Value}{r:Nm}{d:Nat}(Q:o.op=.range t x)(L:o.dst=some d)(y:d<n)(k:P.underlying t=some (.map key elem))(O:id≠r)(E:H id=⟨ver,some (Qq B bs clock cs)⟩)(R:evP F x=.ps id ver)
  (G:K (.ps r ((H r).ver+1)) (H.set r ⟨(H r).ver+1,some (itB id ver (List.replicate clock false) none)⟩)):PE P W n o F H K:=λV a w e=>by
 have c:=Rp.eval (P:=P) (F:=F) (a:=a) (Z:=W.Z) (H:=H) (V:=V) (w:=w) x λt _=>e.slot t;have f:=c;rw[R]at c f;obtain⟨g,arr,D,U,C,I,A,T,u,N,M⟩:=zkl E e.heap c;have z:(execOp a.eval o).run P w=.ok (.value (.pointer (some ⟨w.heap.size,0,none⟩))) (w.alloc (.mapIter (some g) clock #[] clock)):=by
  simp only[execOp,Q,D,Sem.run_bind,run_range_map w t key elem g arr clock k I,Result.andThen_ok];rfl
 refine yv z ⟨_,_,yq V r (.pointer (some ⟨w.heap.size,0,none⟩)),G,?_⟩;have s:Below w.heap.size w (w.alloc (.mapIter (some g) clock #[] clock)):=(Below.refl _ _).alloc (wcq _) _;have b:Turn W H V w r ⟨(H r).ver+1,some (itB id ver (List.replicate clock false) none)⟩ (.pointer (some ⟨w.heap.size,0,none⟩)) (w.alloc (.mapIter (some g) clock #[] clock)):=wal e.heap s rfl λg C=>by cases C;exact wcq _
 refine e.turn b (λS q=>?_) o.dst (λt k=>by rw[L]at k;cases k;exact y) ?_
 ·cases q;refine⟨w.heap.size,_,[.map (some g)],rfl,e.heap.below.size,heap_alloc_new w _,⟨g,#[],rfl,by rw[wch],λi=>?_,λj h=>by cases h⟩,rfl,λi p v l m=>?_⟩
  ·rw[wdf];split<;>simp
  ·match i,l,m with
   |0,l,m=>
    cases l;cases m;have:=b.rp f;rwa [D]at this
 ·refine .ps _ _ _ ?_ λ_ _=>?_
  ·simp[PHeap.set]
  ·simp[yq]
theorem jo9{r:Nm}{vr:Nat}{c:List Bool}{last:Option Nat}{k:List Value}{V:Nm->Value}{w:World}{v:Value}(p:H id=⟨ver,some (Qq k bs clock cs)⟩)(d:H r=⟨vr,some (itB id ver c last)⟩)(n:HRel P W H V w)(A:Rp W.Z H V w (.ps r vr) v):
  ∃(h g:Nat)(arr:Array MapEntry)(a:Array Nat),v=.pointer (some ⟨h,0,none⟩)/\V r=.pointer (some ⟨h,0,none⟩)/\W.w.heap.size<=h/\w.heap[h]?=some (.mapIter (some g) c.length a c.length)/\((∀i,a.contains i=(c[i]?).getD false)/\∀j,last=some j->∃C:Array Nat,a=C.push j)/\Rp W.Z H V w (.ps id ver) (.map (some g))/\w.heap[g]?=some (.map arr clock)/\arr.toList.map (·.key)=k/\RpL W.Z H V w cs (arr.toList.map (·.val))/\arr.toList.map (·.born)=bs/\bs.Nodup/\∀b∈bs,b<clock:=by
 obtain⟨h,o,E,e,t,x,⟨b,a,rfl,rfl,z⟩,q⟩:=n.map r true _ _ (by rw[d];rfl);have m:=q.2 0 _ _ rfl rfl;obtain⟨g,arr,l,D,u,s,f⟩:=zkl p n m;cases l;cases A with
 |ps _ _ _ B y=>
  have:=y (by rw[d];rfl) (by rw[d]);exact⟨h,_,arr,a,by rw[this,e];rfl,e,t,x,z,m,s,f⟩
theorem wb9{r:Nm}{vr m:Nat}{f:List Bool}{last:Option Nat}{R:List Value}(ho:o.op=.next x false)(hd:Y4 n o)(hH:H id=⟨ver,some (Qq R (List.range m) m cs)⟩)(I:H r=⟨vr,some (itB id ver f last)⟩)(hm:f.length=m)(hx:evP F x=.ps r vr)
  (h0:(∀i,i<m->f[i]?=some true)->K (.tup [.u (.bool false)]) H)
  (A:∀(j:Nat)(c:PV)(k:Value),j<m->cs[j]?=some c->R[j]?=some k->f[j]?=some false->K (.tup [.u (.bool true),ofV k,c]) (H.set r ⟨vr,some (itB id ver (f.set j true) (some j))⟩)):PE P W n o F H K:=λV a w X=>by
 have a2:=Rp.eval (P:=P) (F:=F) (a:=a) (Z:=W.Z) (H:=H) (V:=V) (w:=w) x λt _=>X.slot t;rw[hx]at a2;obtain⟨S,g,arr,d,hv,hV,b1,M,⟨Q,_⟩,b9,hb,O,hR,l,c9,b7⟩:=jo9 hH I X.heap a2;rw[hm]at M;have b0:=(wdh.1 M).1;have U:∀x∈arr.toList,x.born<m:=λx hx=>b7 _ (by rw[<- l];exact wcz.2 ⟨x,hx,rfl⟩);rcases run_next_at (P:=P) w o.type S g m m d arr m M hb U (wcq _)with⟨hs,y⟩|⟨e,he,w1,J,y⟩
 ·have N:(execOp a.eval o).run P w=.ok (.value (.tuple #[.bool false])) w:=by
   simp only[execOp,ho,hv,Sem.run_bind,y,Result.andThen_ok];rfl
  refine yv N ⟨_,_,V,h0 λi hi=>?_,X.put (Below.refl _ _) o.dst hd (.tup _ _ rfl λi p v A C=>?_)⟩
  ·have b2:i∈arr.toList.map (·.born):=by rw[l];exact wef.2 hi
   obtain⟨x,hx,rfl⟩:=wcz.1 b2;have G:=all_seen arr d hs x hx;rw[Q]at G;rw[wcf (by rw[hm];exact hi)]at G⊢;simpa using G
  ·match i,A,C with
   |0,A,C=>cases A;cases C;exact .u _
 ·obtain⟨a8,D⟩:=mem_left he;obtain⟨j,hj⟩:=wdc a8;have b5:R[j]?=some e.key:=by rw[<- O,wcp,hj];rfl
  have L:(List.range m)[j]?=some e.born:=by rw[<- l,wcp,hj];rfl
  have E:j<m:=by have:=(wcg.1 L).1;simpa using this
  have b4:e.born=j:=by rw[wcf (by simpa using E)]at L;simpa using L.symm
  have Y:(arr.toList.map (·.val))[j]?=some e.val:=by rw[wcp,hj];rfl
  obtain⟨c,T⟩:∃c,cs[j]?=some c:=⟨_,wcf (by rw[hR.1];exact(wcg.1 Y).1)⟩
  rw[b4]at y D;have b8:f[j]?=some false:=by
   rw[Q]at D;rw[wcf (by rw[hm];exact E)]at D⊢;simpa using D
  have N:(execOp a.eval o).run P w=.ok (.value (.tuple #[.bool true,e.key,e.val])) (Go.ChangeMaps.setBlock w1 S (.mapIter (some g) m (d.push j) m)):=by
   simp only[execOp,ho,hv,Sem.run_bind,y,Result.andThen_ok];rfl
  have z:w1.heap=w.heap:=by rcases J with rfl|rfl<;>rfl
  have a0:∀{B:Nat}{a:World},Below B a w->Below B a w1:=λ{B a}h=>by rcases J with rfl|rfl;exact h;exact h.trans ⟨rfl,rfl,rfl,wcq _,λ_ _=>rfl⟩
  have hl:(H r).body.isSome=true:=by rw[I];rfl
  have s:∀b,b≠S->(Go.ChangeMaps.setBlock w1 S (.mapIter (some g) m (d.push j) m)).heap[b]?=w.heap[b]?:=λb c0=>by
   unfold Go.ChangeMaps.setBlock;simp only[z];simp[Ne.symm c0]
  have q:Turn W H V w r ⟨vr,some (itB id ver (f.set j true) (some j))⟩ (V r) (Go.ChangeMaps.setBlock w1 S (.mapIter (some g) m (d.push j) m)):=
   ⟨(a0 X.heap.below).trans ⟨rfl,rfl,rfl,by simp[Go.ChangeMaps.setBlock],λb hb=>by rw[s b (by omega),z]⟩,by simp[Go.ChangeMaps.setBlock,z],λb hb hn=>s b λe=>hn ⟨hl,by rw[e,hV];rfl⟩,λg' a9=> .inr ⟨hl,a9⟩,.inr ⟨by rw[I],rfl,hl⟩⟩
  refine yv N ⟨_,_,yq V r (V r),A j c e.key E T b5 b8,?_⟩;refine X.turn q (λbd a7=>?_) o.dst hd (.tup _ _ rfl λi p v A C=>?_)
  ·cases a7;refine⟨S,.mapIter (some g) m (d.push j) m,[.map (some g)],hV,b1,by simp[Go.ChangeMaps.setBlock,z,b0],⟨g,d.push j,rfl,by rw[web,hm],λi=>?_,λi hi=>?_⟩,rfl,λi p v G h4=>?_⟩
   ·rw[wc8];have hp:(d.push j).contains i=(d.contains i ||i == j):=by simp only[Array.contains_push,Bool.or_comm]
    rw[hp,Q];by_cases e:j=i
    ·subst e;rw[if_pos rfl,if_pos (by rw[hm];exact E)];simp
    ·rw[if_neg e];simp[Ne.symm e]
   ·cases hi;exact⟨d,rfl⟩
   ·match i,G,h4 with
    |0,G,h4=>cases G;cases h4;exact q.rp b9
  ·match i,A,C with
   |0,A,C=>cases A;cases C;exact .u _
   |1,A,C=>cases A;cases C;exact Rp.ofV _ _ _ _ _
   |2,A,C=>cases A;cases C;exact q.rp (hR.2 j c e.val T Y)
theorem wby{r:Nm}{vr j m:Nat}{b:List Bool}{u:List Value}{c:PV}{k:Value}(G:o.op=.entry x)(L:H id=⟨ver,some (Qq u (List.range m) m cs)⟩)(y:H r=⟨vr,some (itB id ver b (some j))⟩)(hm:b.length=m)(Z:evP F x=.ps r vr)(R:j<m)(N:cs[j]?=some c)(E:u[j]?=some k):PQ P W o F H (.tup [ofV k,c]):=waf λV a w Y Q=>by
 have t:=Q x (by rw[G];simp[Op.operands]);rw[Z]at t;obtain⟨K,g,arr,I,X,hV,O,q,⟨_,U⟩,T,z,h,M,d,C,S⟩:=jo9 L y Y t;obtain⟨J,rfl⟩:=U j rfl;obtain⟨e,f,A⟩:∃e,arr.toList[j]?=some e/\e.born=j:=by
  have D:(arr.toList.map (·.born))[j]?=some j:=by rw[d];simp[R]
  rw[wcp]at D;exact wcs.1 D
 have B:e.key=k:=by rw[<- h,wcp,f]at E;simpa using E
 rw[<- A]at q;have s:=run_entry_at (P:=P) w K g b.length J arr b.length e q (by rw[hm];exact z) (wck f) (by rw[d];exact C);refine⟨.tuple #[e.key,e.val],?_,.tup _ _ rfl λi p v l n=>?_⟩
 ·simp only[execOp,G,X,Sem.run_bind,s,Result.andThen_ok];rfl
 ·match i,l,n with
  |0,l,n=>cases l;cases n;rw[B];exact Rp.ofV _ _ _ _ _
  |1,l,n=>cases l;cases n;exact M.2 j c e.val N (by rw[wcp,f];rfl)
end
end
end Go.Proofs.YtigdmmgklieofaaGreat.L
namespace Go.Proofs.YtigdmmgklieofaaGreat.T
noncomputable section
set_option maxRecDepth 100000
set_option maxHeartbeats 8000000
set_option linter.unusedVariables false
set_option linter.unusedSimpArgs false
open Go Go.RowKit L
inductive Ty where
 |int (k:IntKind)
 |bool
 |str
 |sl (t:Ty)
 |ref (t:Ty)
 |arr (n:Nat) (t:Ty)
 |nil
 |cons (a r:Ty)
 |st (r:Ty)
 |tup (r:Ty)
structure Arr(n:Nat)(α:Type)where
 l:List α
 h:l.length=n
@[reducible] def Ty.D:Ty->Type
 |.int _=>Int
 |.bool=>Bool
 |.str=>List UInt8
 |.sl t=>List t.D
 |.ref t=>Option t.D
 |.arr n t=>Arr n t.D
 |.nil=>Unit
 |.cons a r=>a.D×r.D
 |.st r=>r.D
 |.tup r=>r.D
def ikB:IntKind->IntKind->Bool
 |.i8,.i8|.i16,.i16|.i32,.i32|.i64,.i64|.u8,.u8|.u16,.u16|.u32,.u32|.u64,.u64=>true
 |_,_=>false
theorem z4i{a b:IntKind}(h:ikB a b=true):a=b:=by cases a<;>cases b<;>first|rfl|cases h
def Ty.eqB:Ty->Ty->Bool
 |.int k,.int c=>ikB k c
 |.bool,.bool=>true
 |.str,.str=>true
 |.sl a,.sl b=>a.eqB b
 |.ref a,.ref b=>a.eqB b
 |.arr n a,.arr m b=>Nat.beq n m && a.eqB b
 |.nil,.nil=>true
 |.cons a r,.cons b s=>a.eqB b && r.eqB s
 |.st r,.st s=>r.eqB s
 |.tup r,.tup s=>r.eqB s
 |_,_=>false
theorem Ty.eqB_eq:∀{a b:Ty},a.eqB b=true->a=b
 |.int k,b,h=>by cases b<;>simp only[eqB]at h<;>first|(rw[z4i h])|cases h
 |.bool,b,h=>by cases b<;>simp only[eqB]at h<;>first|rfl|cases h
 |.str,b,h=>by cases b<;>simp only[eqB]at h<;>first|rfl|cases h
 |.sl a,b,h=>by cases b<;>simp only[eqB]at h<;>first|(rw[eqB_eq h])|cases h
 |.ref a,b,h=>by cases b<;>simp only[eqB]at h<;>first|(rw[eqB_eq h])|cases h
 |.arr n a,b,h=>by
  cases b<;>simp only[eqB]at h<;>first|(rw[wcl]at h;rw[eqB_eq h.2,wcj h.1])|cases h
 |.nil,b,h=>by cases b<;>simp only[eqB]at h<;>first|rfl|cases h
 |.cons a r,b,h=>by
  cases b<;>simp only[eqB]at h<;>first|(rw[wcl]at h;rw[eqB_eq h.1,eqB_eq h.2])|cases h
 |.st r,b,h=>by cases b<;>simp only[eqB]at h<;>first|(rw[eqB_eq h])|cases h
 |.tup r,b,h=>by cases b<;>simp only[eqB]at h<;>first|(rw[eqB_eq h])|cases h
def castD{a b:Ty}(h:a=b)(x:a.D):b.D:=h▸x
def jkb(a b:Ty)(x:a.D):Option b.D:=match h:a.eqB b with
 |true=>some (castD (Ty.eqB_eq h) x)
 |false=>none
def wid:Ty->Nat
 |.arr n t=>n*wid t
 |.nil=>0
 |.cons a r=>wid a+wid r
 |.st r=>wid r
 |_=>1
def Yc:Ty->Bool
 |.arr _ _=>true
 |.nil=>true
 |.cons _ _=>true
 |.st _=>true
 |_=>false
def mkV(t:Ty)(cs:List PV):PV:=match Yc t with
 |true => .agg cs
 |false=>cs.headD .unk
def ye:Ty->List PV->List PV
 |.cons a r,cs=>mkV a (cs.take (wid a))::ye r (cs.drop (wid a))
 |_,_=>[]
def jq:(t:Ty)->t.D->List PV
 |.int k,z=>[.u (.int k z)]
 |.bool,b=>[.u (.bool b)]
 |.str,s=>[.u (.string ⟨⟨s⟩⟩)]
 |.sl t,l=>[.sl (wid t) (l.map λx=>mkV t (jq t x))]
 |.ref t,o=>[match o with
  |none => .u (.pointer none)
  |some x => .rp (jq t x)]
 |.arr _ t,v=>v.l.flatMap (jq t)
 |.nil,_=>[]
 |.cons a r,x=>jq a x.1++jq r x.2
 |.st r,x=>jq r x
 |.tup r,x=>[.tup (ye r (jq r x))]
def enc(t:Ty)(x:t.D):PV:=mkV t (jq t x)
theorem J6{α:Type}(f:α->List PV)(k:Nat):∀(l:List α),(∀x∈l,(f x).length=k)->(l.flatMap f).length=l.length*k
 |[],_=>by simp
 |a::l,h=>by
  rw[wdd,wcu,h a (by simp),J6 f k l (λx b=>h x (by simp[b]))];simp[wfw,wfr]
theorem qa:∀(t:Ty)(x:t.D),(jq t x).length=wid t
 |.int _,_=>rfl
 |.bool,_=>rfl
 |.str,_=>rfl
 |.sl _,_=>rfl
 |.ref _,_=>rfl
 |.arr n t,v=>by simp only[jq,wid];rw[J6 _ (wid t) v.l λx _=>qa t x,v.h]
 |.nil,_=>rfl
 |.cons a r,x=>by simp only[jq,wid,wcu,qa a,qa r]
 |.st r,x=>by simp only[jq,wid];exact qa r x
 |.tup _,_=>rfl
theorem jgk(t:Ty)(x:t.D):(mkV t (jq t x)).cells=jq t x:=by
 cases t<;>first|rfl|(simp only[jq,mkV,Yc];split<;>rfl)
theorem enc_cells(t:Ty)(x:t.D):(enc t x).cells=jq t x:=jgk t x
theorem Yg(t:Ty)(l:List t.D):(l.map (enc t)).flatMap PV.cells=l.flatMap (jq t):=by
 rw[List.flatMap_map];exact congrArg (λf=>l.flatMap f) (funext λx=>enc_cells t x)
theorem zht(t:Ty)(l:List t.D):enc (.sl t) l=.sl (wid t) (l.map (enc t)):=rfl
theorem z3a{t:Ty}{cs:List PV}(h:∀c∈cs,NoP c)(b:Yc t=false->cs≠[]):NoP (mkV t cs):=by
 unfold mkV;cases a:Yc t
 ·cases cs with
  |nil=>exact absurd rfl (b a)
  |cons c cs=>exact h c (by simp)
 ·exact .agg _ h
theorem zfr{t:Ty}(h:Yc t=false):wid t=1:=by cases t<;>first|rfl|cases h
theorem zl3{P:PV->Prop}:∀(r:Ty)(cs:List PV),cs.length=wid r->(∀c∈cs,P c)->(∀{t:Ty}{ds:List PV},(∀c∈ds,P c)->(Yc t=false->ds≠[])->P (mkV t ds))->∀p∈ye r cs,P p
 |.cons a r,cs,g,h,i,p,b=>by
  simp only[ye,wc1]at b;rcases b with rfl|b
  ·refine i (λc d=>h c (wez d)) λf e=>?_;have:(cs.take (wid a)).length=0:=by rw[e];rfl
   simp only[wid]at g;rw[wdl,zfr f]at this;have:=zfr f;omega
  ·refine zl3 r _ ?_ (λc d=>h c (we9 d)) i p b;simp only[wid]at g;rw[wdw];omega
 |.int _,_,_,_,_,p,b=>by simp[ye]at b
 |.bool,_,_,_,_,p,b=>by simp[ye]at b
 |.str,_,_,_,_,p,b=>by simp[ye]at b
 |.sl _,_,_,_,_,p,b=>by simp[ye]at b
 |.ref _,_,_,_,_,p,b=>by simp[ye]at b
 |.arr _ _,_,_,_,_,p,b=>by simp[ye]at b
 |.nil,_,_,_,_,p,b=>by simp[ye]at b
 |.st _,_,_,_,_,p,b=>by simp[ye]at b
 |.tup _,_,_,_,_,p,b=>by simp[ye]at b
theorem zup{t:Ty}(x:t.D)(h:Yc t=false):jq t x≠[]:=λe=>by
 have:=qa t x;rw[e,zfr h]at this;cases this
theorem yg:∀(t:Ty)(x:t.D),∀c∈jq t x,NoP c
 |.int _,_,c,h=>by simp only[jq,wci]at h;subst h;exact .u _
 |.bool,_,c,h=>by simp only[jq,wci]at h;subst h;exact .u _
 |.str,_,c,h=>by simp only[jq,wci]at h;subst h;exact .u _
 |.sl t,l,c,h=>by
  simp only[jq,wci]at h;subst h;refine .sl _ _ λc e=>?_;obtain⟨x,_,rfl⟩:=wcz.1 e;exact z3a (yg t x) (zup x)
 |.ref t,o,c,h=>by
  simp only[jq,wci]at h;subst h;cases o with
  |none=>exact .u _
  |some x=>exact .rp _ (yg t x)
 |.arr n t,v,c,h=>by
  simp only[jq]at h;obtain⟨x,_,f⟩:=wds.1 h;exact yg t x c f
 |.nil,_,c,h=>by simp[jq]at h
 |.cons a r,x,c,h=>by
  simp only[jq,wco]at h;rcases h with h|h
  ·exact yg a _ c h
  ·exact yg r _ c h
 |.st r,x,c,h=>by simp only[jq]at h;exact yg r _ c h
 |.tup r,x,c,h=>by
  simp only[jq,wci]at h;subst h;exact .tup _ (zl3 r _ (qa r x) (yg r x) λb d=>z3a b d)
theorem zb7(t:Ty)(x:t.D):NoP (enc t x):=z3a (yg t x) (zup x)
def zda:Ty->Bool
 |.arr _ t=>zda t
 |.cons a r=>zda a && zda r
 |.st r=>zda r
 |.tup _=>false
 |_=>true
theorem zd6:∀(t:Ty)(x:t.D)(H:PHeap),zda t=true->∀c∈jq t x,Jm H c=true
 |.int _,_,H,_,c,h=>by simp only[jq,wci]at h;subst h;rfl
 |.bool,_,H,_,c,h=>by simp only[jq,wci]at h;subst h;rfl
 |.str,_,H,_,c,h=>by simp only[jq,wci]at h;subst h;rfl
 |.sl t,l,H,_,c,h=>by simp only[jq,wci]at h;subst h;rfl
 |.ref t,o,H,_,c,h=>by
  simp only[jq,wci]at h;subst h;cases o<;>rfl
 |.arr n t,v,H,b,c,h=>by
  simp only[jq]at h;obtain⟨x,_,d⟩:=wds.1 h;exact zd6 t x H (by simpa [zda]using b) c d
 |.nil,_,H,_,c,h=>by simp[jq]at h
 |.cons a r,x,H,b,c,h=>by
  simp only[zda,wcl]at b;simp only[jq,wco]at h;rcases h with h|h
  ·exact zd6 a _ H b.1 c h
  ·exact zd6 r _ H b.2 c h
 |.st r,x,H,b,c,h=>by simp only[jq]at h;exact zd6 r _ H (by simpa [zda]using b) c h
 |.tup r,x,H,b,c,h=>by simp[zda]at b
structure Dyn where
 t:Ty
 x:t.D
def Dyn.pv(d:Dyn):PV:=enc d.t d.x
def Dyn.as(d:Dyn)(t:Ty):Option t.D:=jkb d.t t d.x
theorem wag{d:Dyn}{t:Ty}{x:t.D}(h:d.as t=some x):d=⟨t,x⟩:=by
 obtain⟨b,y⟩:=d;unfold Dyn.as jkb at h;simp only at h;split at h
 ·rename_i a;have:=Ty.eqB_eq a;subst this;cases h;rfl
 ·cases h
inductive TS where
 | v (d : Dyn)                               -- told data
 | c (v : Value)                             -- a constant
 | own (id ver : Nat)                        -- the slice, or map, that an own block is
 | q (id k off ver : Nat)                    -- that slice from an element on
 | pt (id off ver : Nat)                     -- a pointer into an own block
 | elt (id k : Nat) (i : Int) (off ver : Nat) -- a pointer into an element of an own block
 | kid (id : Nat) (p : Int) (v : Nat)        -- an own row's element that is an own row
 | kel (id : Nat) (p : Int) (k : Nat) (i : Int) (off v : Nat) -- a pointer into an element of it
 | rd (d : Dyn)                              -- a pointer to told data
 |dead
 |fn (f:Fn) (a b:List TS)
 | agg (xs : List TS)                        -- a struct: parts, one behind the other
 |tup (xs:List TS)
 deriving Inhabited
mutual
def TS.den:TS->PV
 |.v d=>enc d.t d.x
 |.c v=>ofV v
 |.own id g => .ps (.o id) g
 |.q id k e g => .qs (.o id) e k g
 |.pt id e g => .pp (.o id) e g
 |.elt id k i e g => .pp (.o id) (i.toNat*k+e) g
 |.kid id p v => .ps (.c id p.toNat) v
 |.kel id p k i e v => .pp (.c id p.toNat) (i.toNat*k+e) v
 |.rd d => .rp (jq d.t d.x)
 |.dead => .unk
 |.fn f a b => .fn f (yo a) (yo b)
 |.agg h => .agg (qd h)
 |.tup h => .tup (yo h)
def yo:List TS->List PV
 |[]=>[]
 |x::a=>x.den::yo a
def qd:List TS->List PV
 |[]=>[]
 |x::a=>x.den.cells++qd a
end
theorem zep(xs:List TS):yo xs=xs.map TS.den:=by
 induction xs with
 |nil=>simp only[yo,wed]
 |cons x xs a=>simp only[yo,wc4,a]
theorem zqq(xs:List TS):qd xs=xs.flatMap λx=>x.den.cells:=by
 induction xs with
 |nil=>simp only[qd,wfx]
 |cons x xs a=>simp only[qd,wdd,a]
theorem zrw(xs ys:List TS):qd (xs++ys)=qd xs++qd ys:=by simp only[zqq,wex]
theorem z6u(a b:List TS):yo (a++b)=yo a++yo b:=by simp only[zep,wdb]
def jg8:Value->Nat
 |.agg a=>a.size
 |_=>1
mutual
def Za:TS->Nat
 |.v d=>wid d.t
 |.c v=>jg8 v
 |.agg a=>jk7 a
 |_=>1
def jk7:List TS->Nat
 |[]=>0
 |x::a=>Za x+jk7 a
end
mutual
theorem zkf:∀s:TS,s.den.cells.length=Za s
 |.v d=>by simp only[TS.den,Za,enc_cells,qa]
 |.c v=>by simp only[TS.den,Za];cases v<;>simp[ofV,PV.cells,jg8]
 |.own _ _=>by simp only[TS.den,Za,PV.cells,wc5]
 |.q _ _ _ _=>by simp only[TS.den,Za,PV.cells,wc5]
 |.pt _ _ _=>by simp only[TS.den,Za,PV.cells,wc5]
 |.elt _ _ _ _ _=>by simp only[TS.den,Za,PV.cells,wc5]
 |.kid _ _ _=>by simp only[TS.den,Za,PV.cells,wc5]
 |.kel _ _ _ _ _ _=>by simp only[TS.den,Za,PV.cells,wc5]
 |.rd _=>by simp only[TS.den,Za,PV.cells,wc5]
 |.dead=>by simp only[TS.den,Za,PV.cells,wc5]
 |.fn _ _ _=>by simp only[TS.den,Za,PV.cells,wc5]
 |.agg a=>by simp only[TS.den,Za,PV.cells];exact z8i a
 |.tup _=>by simp only[TS.den,Za,PV.cells,wc5]
theorem z8i:∀a:List TS,(qd a).length=jk7 a
 |[]=>by simp only[qd,jk7,wfb]
 |x::a=>by simp only[qd,jk7,wcu,zkf x,z8i a]
end
def Ref(p q:PV):Prop:=∀(Z:ZM)(H:PHeap)(V:Nm->Value)(w:World)(v:Value),Rp Z H V w p v->Rp Z H V w q v
theorem Ref.refl(p:PV):Ref p p:=λ_ _ _ _ _ h=>h
theorem Ref.unk(p:PV):Ref p .unk:=λ_ _ _ _ v _=> .unk v
def RefL(ps qs:List PV):Prop:=ps.length=qs.length/\∀(i:Nat)(p q:PV),ps[i]?=some p->qs[i]?=some q->Ref p q
theorem RefL.refl(ps:List PV):RefL ps ps:=⟨rfl,λi p q b a=>by rw[b]at a;cases a;exact Ref.refl p⟩
theorem RefL.nil:RefL [] []:=RefL.refl []
theorem RefL.cons{p q:PV}{ps qs:List PV}(h:Ref p q)(e:RefL ps qs):RefL (p::ps) (q::qs):=⟨by simp[e.1],λi a b c d=>by
 cases i with
 |zero=>simp at c d;subst c d;exact h
 |succ i=>exact e.2 i a b (by simpa using c) (by simpa using d)⟩
theorem RefL.append{a b c d:List PV}(e:RefL a b)(h:RefL c d):RefL (a++c) (b++d):=⟨by simp[e.1,h.1],λi p q f g=>by
 by_cases j:i<a.length
 ·rw[wcr j]at f;rw[wcr (by rw[<- e.1];exact j)]at g;exact e.2 i p q f g
 ·rw[wct (by omega)]at f;rw[wct (by rw[<- e.1];omega),<- e.1]at g;exact h.2 _ p q f g⟩
theorem RefL.take{a b:List PV}(h:RefL a b)(k:Nat):RefL (a.take k) (b.take k):=⟨by simp[h.1],λi p q c d=>by
 rw[wd7]at c d;split at c
 ·rename_i e;rw[if_pos e]at d;exact h.2 i p q c d
 ·cases c⟩
theorem RefL.drop{a b:List PV}(h:RefL a b)(k:Nat):RefL (a.drop k) (b.drop k):=⟨by simp[h.1],λi p q c d=>by
 rw[wdv]at c d;exact h.2 _ p q c d⟩
theorem RefL.rpL{ps qs:List PV}(h:RefL ps qs){Z:ZM}{H:PHeap}{V:Nm->Value}{w:World}{vs:List Value}(c:RpL Z H V w ps vs):RpL Z H V w qs vs:=⟨by rw[<- h.1];exact c.1,λi q v a d=>by
 have b:i<ps.length:=by rw[h.1];exact(wcg.1 a).1
 exact h.2 i _ q (wcf b) a _ _ _ _ _ (c.2 i _ v (wcf b) d)⟩
theorem Ref.agg{ps qs:List PV}(h:RefL ps qs):Ref (.agg ps) (.agg qs):=λZ H V w v e=>by
 cases e with
 |agg _ vs d c=>
  have:=h.rpL (Z:=Z) (H:=H) (V:=V) (w:=w) (vs:=vs.toList) ⟨by simpa using d,λi p v a b=>c i p v a (by simpa using b)⟩;exact .agg _ _ (by simpa using this.1) λi p v a b=>this.2 i p v a (by simpa using b)
theorem Ref.tup{ps qs:List PV}(h:RefL ps qs):Ref (.tup ps) (.tup qs):=λZ H V w v e=>by
 cases e with
 |tup _ vs d c=>
  have:=h.rpL (Z:=Z) (H:=H) (V:=V) (w:=w) (vs:=vs.toList) ⟨by simpa using d,λi p v a b=>c i p v a (by simpa using b)⟩;exact .tup _ _ (by simpa using this.1) λi p v a b=>this.2 i p v a (by simpa using b)
theorem wbl(k:Nat)(a:Option Addr)(c:Nat):Ref (.u (.slice a 0 c)) (.sl k []):=λZ H V w v b=>by cases b;exact .nil _ _ _
def zfk:(r:Ty)->r.D->List TS
 |.cons a r,x => .v ⟨a,x.1⟩::zfk r x.2
 |.nil,_=>[]
 |.st r,x=>[.v ⟨.st r,x⟩]
 |.tup r,x=>[.v ⟨.tup r,x⟩]
 |.int k,x=>[.v ⟨.int k,x⟩]
 |.bool,x=>[.v ⟨.bool,x⟩]
 |.str,x=>[.v ⟨.str,x⟩]
 |.sl t,x=>[.v ⟨.sl t,x⟩]
 |.ref t,x=>[.v ⟨.ref t,x⟩]
 |.arr n t,x=>[.v ⟨.arr n t,x⟩]
theorem zq1:∀(r:Ty)(x:r.D),qd (zfk r x)=jq r x
 |.cons a r,x=>by simp only[zfk,qd,TS.den,enc_cells,jq];rw[zq1 r]
 |.nil,_=>by simp only[zfk,qd,jq]
 |.st r,x=>by simp only[zfk,qd,TS.den,enc_cells,wc7]
 |.tup r,x=>by simp only[zfk,qd,TS.den,enc_cells,wc7]
 |.int k,x=>by simp only[zfk,qd,TS.den,enc_cells,wc7]
 |.bool,x=>by simp only[zfk,qd,TS.den,enc_cells,wc7]
 |.str,x=>by simp only[zfk,qd,TS.den,enc_cells,wc7]
 |.sl t,x=>by simp only[zfk,qd,TS.den,enc_cells,wc7]
 |.ref t,x=>by simp only[zfk,qd,TS.den,enc_cells,wc7]
 |.arr n t,x=>by simp only[zfk,qd,TS.den,enc_cells,wc7]
def zr4:TS->Option (List TS)
 |.v ⟨.st r,x⟩=>some (zfk r x)
 |.v ⟨.cons a r,x⟩=>some (zfk (.cons a r) x)
 |.agg d=>some d
 |.c (.agg b)=>some (b.toList.map .c)
 |_=>none
def Yh:TS->Bool
 |.v d=>Yc d.t
 |.c (.agg _)=>true
 |.agg _=>true
 |_=>false
theorem jds{v:Value}(h:∀a,v ≠ .agg a):(ofV v).cells=[.u v]:=by cases v<;>first|rfl|exact absurd rfl (h _)
theorem jfh{s:TS}{xs:List TS}(h:zr4 s=some xs)(e:∀b,s=.c (.agg b)->b.toList.all Value.oneCell'=true):s.den=.agg (qd xs):=by
 unfold zr4 at h;split at h
 ·cases h;simp only[TS.den,zq1];rfl
 ·cases h;simp only[TS.den,zq1];rfl
 ·cases h;simp only[TS.den]
 ·rename_i b;cases h;have a:=e b rfl;rw[wdx]at a;simp only[TS.den,ofV,zqq,List.flatMap_map];congr 1;have d:∀l:List Value,(∀v∈l,v.oneCell'=true)->l.map PV.u=l.flatMap λv=>(ofV v).cells:=by
   intro l;induction l with
   |nil=>intro _;rfl
   |cons v l g=>
    intro a;rw[wc4,wdd,g λu f=>a u (by simp[f]),jds]
    ·rfl
    ·rintro us rfl;have:=a (.agg us) (by simp);simp[Value.oneCell']at this
  exact d _ a
 ·cases h
def z1n:TS->Bool
 |.c (.agg a)=>a.toList.all Value.oneCell'
 |_=>true
theorem zhh{s:TS}{xs:List TS}(h:zr4 s=some xs)(a:z1n s=true):s.den=.agg (qd xs):=jfh h λb e=>by subst e;exact a
def Y8:Nat->Nat->List TS->Option (List TS×List TS)
 |_,0,a=>some ([],a)
 |0,_,_=>none
 |_+1,_+1,[]=>none
 |f+1,k+1,x::a=>match Nat.ble (Za x) (k+1)with
  |true=>match Y8 f (k+1-Za x) a with
   |some r=>some (x::r.1,r.2)
   |none=>none
  |false=>match z1n x with
   |true=>match zr4 x with
    |some b=>Y8 f (k+1) (b++a)
    |none=>none
   |false=>none
theorem Q3:∀(f k:Nat)(xs:List TS)(r:List TS×List TS),Y8 f k xs=some r->qd r.1++qd r.2=qd xs/\(qd r.1).length=k
 |0,0,xs,r,h=>by simp only[Y8]at h;cases h;simp only[qd,wei,wfb,and_self]
 |_+1,0,xs,r,h=>by simp only[Y8]at h;cases h;simp only[qd,wei,wfb,and_self]
 |0,_+1,xs,r,h=>by simp[Y8]at h
 |f+1,k+1,[],r,h=>by simp[Y8]at h
 |f+1,k+1,x::xs,r,h=>by
  simp only[Y8]at h;split at h
  ·rename_i c;have e:=wd2 c;split at h
   ·rename_i j g;cases h;obtain⟨a,b⟩:=Q3 f _ xs j g;simp only[qd,wc6,a,wcu,b,zkf,true_and];omega
   ·cases h
  ·split at h<;>try (cases h;done)
   rename_i d;split at h<;>try (cases h;done)
   rename_i l i;obtain⟨a,b⟩:=Q3 f (k+1) (l++xs) r h;refine⟨?_,b⟩;rw[a,zrw];simp only[qd,zhh i d,PV.cells]
def zct(ag:Bool)(xs:List TS):TS:=match ag with
 |true=>match xs with
  |[x]=>match Yh x with
   |true=>x
   |false => .agg [x]
  |xs => .agg xs
 |false=>match xs with
  |[x]=>match Yh x with
   |false=>x
   |true=>match z1n x,zr4 x with
    |true,some [y]=>match Yh y with
     |false=>y
     |true => .dead
    |_,_ => .dead
  |_ => .dead
theorem zer{s:TS}(h:Yh s=true):s.den=.agg s.den.cells:=by
 unfold Yh at h;split at h
 ·simp only[TS.den,enc_cells];unfold enc mkV;rw[h]
 ·simp only[TS.den];rfl
 ·simp only[TS.den];rfl
 ·cases h
theorem Z6{s:TS}(h:Yh s=false):s.den.cells=[s.den]:=by
 cases s with
 |v d=>
  simp only[Yh]at h;simp only[TS.den,enc_cells];unfold enc mkV;rw[h];have a:=qa d.t d.x;rw[zfr h]at a
  match b:jq d.t d.x,a with
  |[c],_=>rfl
 |c v=>cases v<;>first|(simp only[TS.den];rfl)|(simp[Yh]at h)
 |agg e=>simp[Yh]at h
 |_=>simp only[TS.den];rfl
theorem jc6{ag:Bool}{k:Nat}{xs:List TS}{rest:List PV}(g:(qd xs).length=k)(c:ag=false->k=1):∃p,Y2 ag k (qd xs++rest)=some p/\Ref p (zct ag xs).den:=by
 cases ag with
 |true=>
  refine⟨.agg (qd xs),?_,?_⟩
  ·unfold Y2;rw[if_pos rfl,if_pos (by simp;omega),<- g];simp
  ·unfold zct;simp only;split
   ·rename_i x;split
    ·rename_i d;rw[zer d];simp only[qd,wc7];exact Ref.refl _
    ·simp only[TS.den];exact Ref.refl _
   ·simp only[TS.den];exact Ref.refl _
 |false=>
  have c:=c rfl;subst c
  match a:qd xs,g with
  |[p],_=>
   refine⟨p,by simp[Y2],?_⟩;unfold zct;simp only;split
   ·rename_i x;split
    ·rename_i d;simp only[qd,wc7,Z6 d]at a;cases a;exact Ref.refl _
    ·split
     ·rename_i y b h;split
      ·rename_i e;have f:qd [y]=[p]:=by
        rw[<- a];have:=zhh h b;simp only[qd,wc7,this,PV.cells]
       simp only[qd,wc7,Z6 e]at f;cases f;exact Ref.refl _
      ·simp only[TS.den];exact Ref.unk _
     ·simp only[TS.den];exact Ref.unk _
   ·simp only[TS.den];exact Ref.unk _
def ofC:(t:Ty)->Value->Option t.D
 |.int k,.int a z=>match ikB k a with
  |true=>some z
  |false=>none
 |.bool,.bool b=>some b
 |.str,.string s=>some s.data.toList
 |.sl _,.slice none 0 0=>some []
 |.ref _,.pointer none=>some none
 |_,_=>none
theorem ofC_ok{t:Ty}{v:Value}{x:t.D}(h:ofC t v=some x):Yc t=false/\(∀a,v ≠ .agg a)/\Ref (.u v) (enc t x):=by
 unfold ofC at h;split at h
 ·split at h<;>cases h;rename_i e;rw[z4i e];exact⟨rfl,(λa e=>by cases e),Ref.refl _⟩
 ·cases h;exact⟨rfl,(λa e=>by cases e),Ref.refl _⟩
 ·cases h;exact⟨rfl,(λa e=>by cases e),Ref.refl _⟩
 ·cases h;exact⟨rfl,(λa e=>by cases e),wbl _ _ _⟩
 ·cases h;exact⟨rfl,(λa e=>by cases e),Ref.refl _⟩
 ·cases h
def Y3(t:Ty):TS->Option t.D
 |.v d=>d.as t
 |.c v=>ofC t v
 |_=>none
def zja{α:Type}(f:TS->Option α)(ag:Bool)(w:Nat):Nat->List TS->Option (List α)
 |0,[]=>some []
 |0,_=>none
 |n+1,b=>match Y8 512 w b with
  |none=>none
  |some r=>match f (zct ag r.1)with
   |none=>none
   |some a=>match zja f ag w n r.2 with
    |none=>none
    |some l=>some (a::l)
def zdk(s:TS):Option (List TS):=match z1n s with
 |true=>zr4 s
 |false=>none
def jcn{α:Type}(n:Nat):Option (List α)->Option (Arr n α)
 |some l=>match h:Nat.beq l.length n with
  |true=>some ⟨l,wcj h⟩
  |false=>none
 |none=>none
mutual
def toT:(t:Ty)->TS->Option t.D
 |.int k,s=>Y3 (.int k) s
 |.bool,s=>Y3 .bool s
 |.str,s=>Y3 .str s
 |.sl t,s=>Y3 (.sl t) s
 |.ref t,s=>match s with
  |.rd d=>match d.as t with
   |some x=>some (some x)
   |none=>none
  |s=>Y3 (.ref t) s
 |.nil,s=>none
 |.cons _ _,s=>none
 |.st r,s=>match Y3 (.st r) s with
  |some x=>some x
  |none=>match zdk s with
   |some a=>toR r a
   |none=>none
 |.arr n t,s=>match Y3 (.arr n t) s with
  |some x=>some x
  |none=>match zdk s with
   |some a=>jcn n (zja (toT t) (Yc t) (wid t) n a)
   |none=>none
 |.tup r,s=>match s with
  |.tup a=>toL r a
  |s=>Y3 (.tup r) s
def toR:(r:Ty)->List TS->Option r.D
 |.nil,[]=>some ()
 |.cons a r,b=>match Y8 512 (wid a) b with
  |none=>none
  |some q=>match toT a (zct (Yc a) q.1)with
   |none=>none
   |some x=>match toR r q.2 with
    |none=>none
    |some y=>some (x,y)
 |_,_=>none
def toL:(r:Ty)->List TS->Option r.D
 |.nil,[]=>some ()
 |.cons a r,x::b=>match toT a x with
  |none=>none
  |some p=>match toL r b with
   |none=>none
   |some y=>some (p,y)
 |_,_=>none
end
def TOk(s:TS)(t:Ty)(x:t.D):Prop:=RefL s.den.cells (jq t x)/\Ref s.den (enc t x)
theorem zas{t:Ty}{s:TS}{x:t.D}(h:Y3 t s=some x):TOk s t x:=by
 unfold Y3 at h;split at h
 ·rename_i d;have:=wag h;subst this;unfold TOk;simp only[TS.den,enc_cells];exact⟨RefL.refl _,Ref.refl _⟩
 ·rename_i v;obtain⟨a,i,b⟩:=ofC_ok h;have e:ofV v=.u v:=by cases v<;>first|rfl|exact absurd rfl (i _)
  unfold TOk;simp only[TS.den];rw[e];refine⟨?_,b⟩;have g:jq t x=[enc t x]:=by
   have f:=qa t x;rw[zfr a]at f;unfold enc mkV;rw[a]
   match j:jq t x,f with
   |[c],_=>rfl
  rw[g];exact RefL.cons b RefL.nil
 ·cases h
theorem Z0{ag:Bool}{xs:List TS}(h:zct ag xs ≠ .dead):(zct ag xs).den.cells=qd xs:=by
 unfold zct at h⊢;cases ag with
 |true=>
  simp only at h⊢;split
  ·rename_i x;split
   ·simp only[qd,wc7]
   ·simp only[TS.den,PV.cells]
  ·simp only[TS.den,PV.cells]
 |false=>
  simp only at h⊢;split at h
  ·rename_i x;split at h
   ·rename_i b;simp only[qd,wc7]
   ·rename_i b;split at h
    ·rename_i y a c;split at h
     ·rename_i d;simp only[qd,wc7,zhh c a,PV.cells]
     ·exact absurd rfl h
    ·exact absurd rfl h
  ·exact absurd rfl h
theorem z8z(t:Ty):toT t .dead=none:=by cases t<;>simp[toT,Y3,zdk,z1n,zr4]
theorem z7a{t:Ty}{f:TS->Option t.D}(i:∀s x,f s=some x->TOk s t x)(g:f .dead=none):∀(n:Nat)(xs:List TS)(l:List t.D),zja f (Yc t) (wid t) n xs=some l->RefL (qd xs) (l.flatMap (jq t))
 |0,[],l,h=>by simp only[zja]at h;cases h;simp only[qd,wfx];exact RefL.nil
 |0,_::_,l,h=>by simp[zja]at h
 |n+1,xs,l,h=>by
  simp only[zja]at h;split at h<;>try (cases h;done)
  rename_i r m;split at h<;>try (cases h;done)
  rename_i a b;split at h<;>try (cases h;done)
  rename_i o k;cases h;obtain⟨j,p⟩:=Q3 _ _ _ _ m;have c:zct (Yc t) r.1 ≠ .dead:=λe=>by rw[e,g]at b;cases b
  have d:=(i _ _ b).1;rw[Z0 c]at d;rw[wdd,<- j];exact RefL.append d (z7a i g n r.2 o k)
theorem zwj{α:Type}{n:Nat}{o:Option (List α)}{v:Arr n α}(h:jcn n o=some v):o=some v.l:=by
 unfold jcn at h;split at h
 ·split at h<;>cases h;rfl
 ·cases h
theorem zgq{s:TS}{xs:List TS}(h:zdk s=some xs):s.den=.agg (qd xs):=by
 unfold zdk at h;split at h
 ·exact zhh h (by assumption)
 ·cases h
mutual
theorem zbt:∀(t:Ty)(s:TS)(x:t.D),toT t s=some x->TOk s t x
 |.int k,s,x,h=>zas (by simpa only [toT]using h)
 |.bool,s,x,h=>zas (by simpa only [toT]using h)
 |.str,s,x,h=>zas (by simpa only [toT]using h)
 |.sl t,s,x,h=>zas (by simpa only [toT]using h)
 |.ref t,s,x,h=>by
  simp only[toT]at h;split at h
  ·rename_i d;split at h<;>cases h;rename_i y e;have:=wag e;subst this;unfold TOk;simp only[TS.den];exact⟨RefL.refl _,Ref.refl _⟩
  ·exact zas h
 |.nil,s,x,h=>by simp[toT]at h
 |.cons _ _,s,x,h=>by simp[toT]at h
 |.st r,s,x,h=>by
  simp only[toT]at h;split at h
  ·cases h;exact zas (by assumption)
  ·split at h<;>try (cases h;done)
   rename_i b c;have a:=jk8 r b x h;unfold TOk;rw[zgq c];exact⟨a,Ref.agg a⟩
 |.arr n t,s,x,h=>by
  simp only[toT]at h;split at h
  ·cases h;exact zas (by assumption)
  ·split at h<;>try (cases h;done)
   rename_i b c;have a:=z7a (λs x=>zbt t s x) (z8z t) _ _ _ (zwj h);unfold TOk;rw[zgq c];exact⟨a,Ref.agg a⟩
 |.tup r,s,x,h=>by
  simp only[toT]at h;split at h
  ·rename_i b;have a:=jh7 r b x h;unfold TOk;simp only[TS.den];exact⟨RefL.cons (Ref.tup a) RefL.nil,Ref.tup a⟩
  ·exact zas h
theorem jk8:∀(r:Ty)(xs:List TS)(x:r.D),toR r xs=some x->RefL (qd xs) (jq r x)
 |.nil,xs,x,h=>by
  cases xs with
  |nil=>simp only[qd,jq];exact RefL.nil
  |cons _ _=>simp[toR]at h
 |.cons a r,xs,x,h=>by
  simp only[toR]at h;split at h<;>try (cases h;done)
  rename_i q g;split at h<;>try (cases h;done)
  rename_i p c;split at h<;>try (cases h;done)
  rename_i y i;cases h;obtain⟨f,j⟩:=Q3 _ _ _ _ g;have b:zct (Yc a) q.1 ≠ .dead:=λe=>by rw[e,z8z]at c;cases c
  have d:=(zbt a _ _ c).1;rw[Z0 b]at d;simp only[jq];rw[<- f];exact RefL.append d (jk8 r q.2 y i)
 |.int k,xs,x,h=>by simp[toR]at h
 |.bool,xs,x,h=>by simp[toR]at h
 |.str,xs,x,h=>by simp[toR]at h
 |.sl t,xs,x,h=>by simp[toR]at h
 |.ref t,xs,x,h=>by simp[toR]at h
 |.st r,xs,x,h=>by simp[toR]at h
 |.arr n t,xs,x,h=>by simp[toR]at h
 |.tup r,xs,x,h=>by simp[toR]at h
theorem jh7:∀(r:Ty)(xs:List TS)(x:r.D),toL r xs=some x->RefL (yo xs) (ye r (jq r x))
 |.nil,xs,x,h=>by
  cases xs with
  |nil=>simp only[yo,ye];exact RefL.nil
  |cons _ _=>simp[toL]at h
 |.cons a r,xs,x,h=>by
  cases xs with
  |nil=>simp[toL]at h
  |cons z xs=>
   simp only[toL]at h;split at h<;>try (cases h;done)
   rename_i p c;split at h<;>try (cases h;done)
   rename_i y d;cases h;simp only[yo,jq,ye];have b:=qa a p;rw[wfh b,we1 b];exact RefL.cons (zbt a z p c).2 (jh7 r xs y d)
 |.int k,xs,x,h=>by simp[toL]at h
 |.bool,xs,x,h=>by simp[toL]at h
 |.str,xs,x,h=>by simp[toL]at h
 |.sl t,xs,x,h=>by simp[toL]at h
 |.ref t,xs,x,h=>by simp[toL]at h
 |.st r,xs,x,h=>by simp[toL]at h
 |.arr n t,xs,x,h=>by simp[toL]at h
 |.tup r,xs,x,h=>by simp[toL]at h
end
inductive RK where
 |mp (kt vt:Ty)
 |si
@[reducible] def RK.ty:RK->Ty
 |.mp a b => .sl (.st (.cons a (.cons b .nil)))
 |.si => .st (.cons .str (.cons (.int .i64) .nil))
def RK.eqB:RK->RK->Bool
 |.mp a b,.mp c d=>a.eqB c && b.eqB d
 |.si,.si=>true
 |_,_=>false
theorem wa9{a b:RK}(h:a.eqB b=true):a=b:=by
 cases a<;>cases b<;>simp only[RK.eqB]at h<;>first|cases h;done|skip
 ·simp only[wcl]at h;rw[Ty.eqB_eq h.1,Ty.eqB_eq h.2]
 ·rfl
def RK.dflt:(k:RK)->k.ty.D
 |.mp _ _=>[]
 |.si=>([],0,())
def uV:PV->Value
 |.u v=>v
 |_=>undef
def oVs(t:Ty)(x:t.D):List Value:=(jq t x).map uV
def oV(t:Ty)(x:t.D):Value:=match Yc t with
 |true => .agg (oVs t x).toArray
 |false=>(oVs t x).headD undef
def plT:Ty->Bool
 |.int _=>true
 |.bool=>true
 |.str=>true
 |.arr _ t=>plT t
 |.nil=>true
 |.cons a r=>plT a && plT r
 |.st r=>plT r
 |_=>false
theorem zv1:∀(t:Ty)(x:t.D),plT t=true->∀c∈jq t x,c=.u (uV c)
 |.int k,x,h,c,b=>by simp only[jq,wci]at b;subst b;rfl
 |.bool,x,h,c,b=>by simp only[jq,wci]at b;subst b;rfl
 |.str,x,h,c,b=>by simp only[jq,wci]at b;subst b;rfl
 |.sl _,x,h,c,b=>by simp[plT]at h
 |.ref _,x,h,c,b=>by simp[plT]at h
 |.arr n t,x,h,c,b=>by
  simp only[plT]at h;simp only[jq]at b;obtain⟨y,_,d⟩:=wds.1 b;exact zv1 t y h c d
 |.nil,x,h,c,b=>by simp[jq]at b
 |.cons a r,x,h,c,b=>by
  simp only[plT,wcl]at h;simp only[jq,wco]at b;rcases b with b|b
  ·exact zv1 a x.1 h.1 c b
  ·exact zv1 r x.2 h.2 c b
 |.st r,x,h,c,b=>by
  simp only[plT]at h;simp only[jq]at b;exact zv1 r x h c b
 |.tup _,x,h,c,b=>by simp[plT]at h
theorem zx5(t:Ty)(x:t.D)(h:plT t=true):enc t x=ofV (oV t x):=by
 have e:=zv1 t x h;unfold enc mkV oV;cases b:Yc t with
 |true=>
  simp only[ofV,oVs,wd8];congr 1;refine(wfp (by simp) λi f g=>?_);simp only[List.getElem_map,Function.comp];exact e _ (wcm f)
 |false=>
  simp only;have d:=qa t x;rw[zfr b]at d
  match a:jq t x,d with
  |[c],_=>
   have:=e c (by rw[a];simp);simp only[List.headD_cons,oVs,a,wc4,wed];cases t<;>first
    |(simp only[jq,wf0,and_true]at a;subst a;rfl)
    |(simp[plT]at h;done)
    |(simp[Yc]at b;done)
def RK.den:(k:RK)->k.ty.D->PBody
 |.mp a b,l=>jf8 (l.map λe=>(oV a e.1,oV b e.2.1))
 |.si,x => .raw true [] λ_ o _=>o=.stringIter ⟨⟨x.1⟩⟩ x.2.1.toNat
theorem RK.den_raw(k:RK)(x:k.ty.D):∃p φ,k.den x=.raw p [] φ:=by
 cases k
 ·exact⟨_,_,rfl⟩
 ·exact⟨_,_,rfl⟩
abbrev Hole:=Option Nat
inductive BD where
 | row (tid : TypeId) (t : Ty) (l : List t.D)   -- elements that are told
 | rowx (tid : TypeId) (k : Nat) (xs : List TS) -- elements, one by one
 | box (tid : TypeId) (xs : List TS)            -- parts
 | obj (k : RK) (x : k.ty.D)                    -- no cells
 | que (tid : TypeId) (t : Ty) (l : List t.D)   -- a row's elements from one on
 | rows (tid it : TypeId) (t : Ty) (l : List (List t.D)) (kv : Nat) (h : Hole) -- elements that are own rows
 | mrows (kt : Ty) (it : TypeId) (t : Ty) (es : List (kt.D × List t.D × Unit)) (kv : Nat) (h : Hole) -- a map of own rows
 | iter (mid mver : Nat) (mask : List Bool) (last : Option Nat) -- a walk over such a map
def Hole.is(h:Hole)(j:Nat):Bool:=match h with
 |some x=>Nat.beq j x
 |none=>false
def Hole.cell(i v:Nat)(h:Hole)(j:Nat):PV:=match h.is j with
 |true => .unk
 |false => .ps (.c i j) v
def BD.den(i v:Nat):BD->PBody
 |.row a t l => .row a (wid t) l.length (l.flatMap (jq t))
 |.rowx a k f => .row a k f.length (qd f)
 |.box a f => .box a (qd f)
 |.obj k x=>k.den x
 |.que a t l => .que a (wid t) l.length (l.flatMap (jq t))
 |.rows a _ _ l _ h => .row a 1 l.length ((List.range l.length).map (h.cell i v))
 |.mrows j _ _ d _ h=>Qq (d.map λe=>oV j e.1) (List.range d.length) d.length ((List.range d.length).map (h.cell i v))
 |.iter g c b last=>itB (.o g) c b last
def BD.ch:BD->Nat->Option PBody
 |.rows _ a t l _ h,j=>match h.is j with
  |true=>none
  |false=>(l[j]?).map λr=> .row a (wid t) r.length (r.flatMap (jq t))
 |.mrows _ a t b _ h,j=>match h.is j with
  |true=>none
  |false=>(b[j]?).map λe=> .row a (wid t) e.2.1.length (e.2.1.flatMap (jq t))
 |_,_=>none
def BD.kv:BD->Nat
 |.rows _ _ _ _ k _=>k
 |.mrows _ _ _ _ k _=>k
 |_=>0
def BD.flat:BD->Bool
 |.rows _ _ _ _ _ _=>false
 |.mrows _ _ _ _ _ _=>false
 |_=>true
structure GB where
 ver:Nat
 b:Option BD
def GB.cv(x:GB):Nat:=match x.b with
 |some b=>x.ver+b.kv
 |none=>x.ver
def GB.flat(x:GB):Bool:=match x.b with
 |some b=>b.flat
 |none=>true
abbrev EF:=Nat->TS
abbrev EG:=Nat->GB
def EF.put(E:EF)(d:Option Nat)(s:TS):EF:=λt=>match d with
 |none=>E t
 |some d=>match Nat.beq d t with
  |true=>s
  |false=>E t
def EG.empty:EG:=λ_=>⟨0,none⟩
def EG.set(G:EG)(id:Nat)(x:GB):EG:=λi=>match Nat.beq i id with
 |true=>x
 |false=>G i
def zh(E:EF):PFrame:=λt=>(E t).den
def v6(i:Nat)(x:GB):zlj:=⟨x.ver,x.b.map (BD.den i x.cv)⟩
def zac(x:GB)(j:Nat):zlj:=⟨x.cv,x.b.bind λb=>b.ch j⟩
theorem wa5{x:GB}(h:x.flat=true):x.cv=x.ver:=by
 obtain⟨a,b⟩:=x;cases b with
 |none=>rfl
 |some b=>cases b<;>first|rfl|cases h
theorem GB.ver_le(x:GB):x.ver<=x.cv:=by
 obtain⟨a,b⟩:=x;cases b with
 |none=>exact wcq _
 |some b=>exact Nat.le_add_right _ _
theorem zpe{x:GB}(h:x.flat=true)(j:Nat):zac x j=⟨x.ver,none⟩:=by
 unfold zac;rw[wa5 h];obtain⟨a,b⟩:=x;cases b with
 |none=>rfl
 |some b=>cases b<;>first|rfl|cases h
def qn(G:EG)(R:PHeap):PHeap
 |.o i=>v6 i (G i)
 |.c i j=>zac (G i) j
 |.r x=>R x
def Qe(x:GB):Nm->zlj
 |.o i=>v6 i x
 |.c _ j=>zac x j
 |.r _=>⟨0,none⟩
theorem jlf{G:EG}{R:PHeap}{k:Nm}{i:Nat}(h:k.rt=some i):qn G R k=Qe (G i) k:=by
 cases k<;>cases h<;>rfl
theorem zjf(E:EF)(d:Option Nat)(s:TS):zh (E.put d s)=(zh E).put d s.den:=by
 funext t;unfold zh EF.put PFrame.put;cases d with
 |none=>simp
 |some d=>
  simp only;by_cases e:d=t
  ·subst e;simp
  ·have:Nat.beq d t=false:=by cases h:Nat.beq d t;rfl;exact absurd (wcj h) e
   rw[this];simp[e]
def zl1(H:PHeap)(id:Nat)(x:GB):PHeap:=λk=>if k.rt=some id then Qe x k else H k
theorem z79 (G : EG) (R : PHeap) (id : Nat) (x : GB) : qn (G.set id x) R = zl1 (qn G R) id x := by
  funext k
  unfold zl1 EG.set
  cases k with
  | o i => by_cases e : i = id
           · subst e; simp [Nm.rt, qn, Qe]
           · have : Nat.beq i id = false := by cases h : Nat.beq i id; rfl; exact absurd (wcj h) e
             simp [Nm.rt, qn, Qe, e, this]
  | c i j => by_cases e : i = id
             · subst e; simp [Nm.rt, qn, Qe]
             · have : Nat.beq i id = false := by cases h : Nat.beq i id; rfl; exact absurd (wcj h) e
               simp [Nm.rt, qn, Qe, e, this]
  | r x => simp [Nm.rt, qn]
def evE(E:EF):Operand->TS
 |.tmp t=>E t
 |.const v => .c v
 |.global _ => .dead
 |.func f => .fn (.func f) [] []
theorem zuv(E:EF)(x:Operand):evP (zh E) x=(evE E x).den:=by
 cases x<;>simp only[evP,evE,zh,TS.den,yo]
inductive HS where
 |v (t:Ty)
 |rd (t:Ty)
 |own (X:Nat)
 |pt (X off:Nat)
 |dead
 |ci (k:IntKind) (z:Int)
 |cb (b:Bool)
 |fn (f:FuncId) (a b:List HS)
 |agg (xs:List HS)
 |tup (xs:List HS)
inductive HB where
 |row (tid:TypeId) (t:Ty)
 |rowx (tid:TypeId) (k:Nat) (xs:List HS)
 |box (tid:TypeId) (xs:List HS)
 |obj (k:RK)
 |que (tid:TypeId) (t:Ty)
 |rows (tid it:TypeId) (t:Ty)
 |mrows (kt:Ty) (it:TypeId) (t:Ty)
 |iter (X:Nat)
structure LH where
 slots:List (Nat×HS)
 heap:List (Nat×HB)
 nx:Nat
inductive MV where
 |id (i ver:Nat)
 |nil
def jd2:Value->Bool
 |.slice none 0 0=>true
 |_=>false
theorem zut{v:Value}(h:jd2 v=true):v=.slice none 0 0:=by
 unfold jd2 at h;split at h
 ·rfl
 ·cases h
mutual
def jnf:HS->Nat
 |.v t=>wid t
 |.agg a=>jo5 a
 |_=>1
def jo5:List HS->Nat
 |[]=>0
 |h::a=>jnf h+jo5 a
end
def zxe:HS->Bool
 |.v t=>Yc t
 |.agg _=>true
 |_=>false
abbrev PR:=List Dyn×List (Nat×MV)
def wai(a b:PR):PR:=(a.1++b.1,a.2++b.2)
def jfy(a b:Option PR):Option PR:=match a with
 |none=>none
 |some x=>match b with
  |none=>none
  |some y=>some (wai x y)
theorem zbu{a b:Option PR}{r:PR}(h:jfy a b=some r):∃x y,a=some x/\b=some y/\r=wai x y:=by
 unfold jfy at h;split at h<;>try (cases h;done)
 split at h<;>cases h;exact⟨_,_,rfl,rfl,rfl⟩
mutual
def Qr:HS->TS->Option PR
 |.v t,s=>match toT t s with
  |some x=>some ([⟨t,x⟩],[])
  |none=>none
 |.rd t,s=>match s with
  |.rd d=>match d.as t with
   |some x=>some ([⟨t,x⟩],[])
   |none=>none
  |_=>none
 |.own X,s=>match s with
  |.own id e=>some ([],[(X,.id id e)])
  |.c v=>match jd2 v with
   |true=>some ([],[(X,.nil)])
   |false=>none
  |_=>none
 |.pt X j,s=>match s with
  |.pt id g e=>match Nat.beq j g with
   |true=>some ([],[(X,.id id e)])
   |false=>none
  |_=>none
 |.dead,_=>some ([],[])
 |.ci k z,s=>match s with
  |.c (.int o p)=>match (Ty.int k).eqB (.int o) && decide (z=p)with
   |true=>some ([],[])
   |false=>none
  |_=>none
 |.cb b,s=>match s with
  |.c (.bool h)=>match b == h with
   |true=>some ([],[])
   |false=>none
  |_=>none
 |.fn f a b,s=>match s with
  |.fn (.func n) m h=>match Nat.beq f n with
   |true=>jfy (zal a m) (zal b h)
   |false=>none
  |_=>none
 |.agg i,s=>match zdk s with
  |some l=>za5 i l
  |none=>none
 |.tup i,s=>match s with
  |.tup l=>zal i l
  |_=>none
def zal:List HS->List TS->Option PR
 |[],[]=>some ([],[])
 |h::a,x::b=>jfy (Qr h x) (zal a b)
 |_,_=>none
def za5:List HS->List TS->Option PR
 |[],[]=>some ([],[])
 |h::a,b=>match Y8 512 (jnf h) b with
  |none=>none
  |some q=>match zct (zxe h) q.1 with
   |.dead=>none
   |s=>jfy (Qr h s) (za5 a q.2)
 |[],_::_=>none
end
mutual
def zlw:HS->Nat
 |.v _=>1
 |.rd _=>1
 |.fn _ a b=>zc0 a+zc0 b
 |.agg c=>zc0 c
 |.tup c=>zc0 c
 |_=>0
def zc0:List HS->Nat
 |[]=>0
 |h::a=>zlw h+zc0 a
end
def nth(ds:List Dyn)(i:Nat):Dyn:=ds.getD i ⟨.nil,()⟩
mutual
def unT(ds:List Dyn):HS->Nat->TS
 |.v _,j => .v (nth ds j)
 |.rd _,j => .rd (nth ds j)
 |.own X,_ => .own X 1
 |.pt X d,_ => .pt X d 1
 |.dead,_ => .dead
 |.ci k z,_ => .c (.int k z)
 |.cb b,_ => .c (.bool b)
 |.fn f a b,j => .fn (.func f) (zis ds a j) (zis ds b (j+zc0 a))
 |.agg e,j => .agg (zis ds e j)
 |.tup e,j => .tup (zis ds e j)
def zis(ds:List Dyn):List HS->Nat->List TS
 |[],_=>[]
 |h::a,j=>unT ds h j::zis ds a (j+zlw h)
end
def jo3:PR:=([],[])
def NmOk(b:Nat):Nm->Prop
 |.o i=>i<b
 |.c _ _=>False
 |.r _=>True
inductive NmAll(S:Nm->Nat->Prop):PV->Prop
 |noP {p:PV}(h:NoP p):NmAll S p
 |unk:NmAll S .unk
 |ps {i:Nm}{ver:Nat}(h:S i ver):NmAll S (.ps i ver)
 |qs {i:Nm}{off k ver:Nat}(h:S i ver):NmAll S (.qs i off k ver)
 |pp {i:Nm}{off ver:Nat}(h:S i ver):NmAll S (.pp i off ver)
 |fn {f:Fn}{x y:List PV}(hx:∀p∈x,NmAll S p) (hy:∀p∈y,NmAll S p):NmAll S (.fn f x y)
 |agg {xs:List PV}(h:∀p∈xs,NmAll S p):NmAll S (.agg xs)
 |tup {xs:List PV}(h:∀p∈xs,NmAll S p):NmAll S (.tup xs)
abbrev IdOk(b:Nat):=NmAll λi _=>NmOk b i
abbrev Fl:=NmAll λ_ _=>True
theorem NmAll.mono{S T:Nm->Nat->Prop}(a:∀i v,S i v->T i v){p:PV}(h:NmAll S p):NmAll T p:=by
 induction h with
 |noP h=>exact .noP h
 |unk=>exact .unk
 |ps h=>exact .ps (a _ _ h)
 |qs h=>exact .qs (a _ _ h)
 |pp h=>exact .pp (a _ _ h)
 |fn _ _ c d=>exact .fn c d
 |agg _ b=>exact .agg b
 |tup _ b=>exact .tup b
theorem IdOk.fl{b:Nat}{p:PV}(h:IdOk b p):Fl p:=NmAll.mono (λ_ _ _=>trivial) h
theorem NmAll.cells{S:Nm->Nat->Prop}{p:PV}(h:NmAll S p):∀c∈p.cells,NmAll S c:=by
 cases h with
 |noP h=>exact λc a=> .noP (h.cell a)
 |agg h=>exact h
 |unk=>intro c a;simp only[PV.cells,wci]at a;subst a;exact .unk
 |ps h=>intro c a;simp only[PV.cells,wci]at a;subst a;exact .ps h
 |qs h=>intro c a;simp only[PV.cells,wci]at a;subst a;exact .qs h
 |pp h=>intro c a;simp only[PV.cells,wci]at a;subst a;exact .pp h
 |fn b d=>intro c a;simp only[PV.cells,wci]at a;subst a;exact .fn b d
 |tup h=>intro c a;simp only[PV.cells,wci]at a;subst a;exact .tup h
theorem zhm (v : Value) : NoP (ofV v) := by
  cases v <;> first
    | exact .u _
    | (refine .agg _ fun c a => ?_
       obtain ⟨z, _, rfl⟩ := wcz.1 a
       exact .u z)
mutual
theorem zbp:∀s:TS,Fl s.den
 |.v d=>by simp only[TS.den];exact .noP (zb7 _ _)
 |.c v=>by simp only[TS.den];exact .noP (zhm v)
 |.own _ _=>by simp only[TS.den];exact .ps trivial
 |.q _ _ _ _=>by simp only[TS.den];exact .qs trivial
 |.pt _ _ _=>by simp only[TS.den];exact .pp trivial
 |.elt _ _ _ _ _=>by simp only[TS.den];exact .pp trivial
 |.kid _ _ _=>by simp only[TS.den];exact .ps trivial
 |.kel _ _ _ _ _ _=>by simp only[TS.den];exact .pp trivial
 |.rd d=>by simp only[TS.den];exact .noP (.rp _ (yg _ _))
 |.dead=>by simp only[TS.den];exact .unk
 |.fn f a b=>by simp only[TS.den];exact .fn (zoa a) (zoa b)
 |.agg e=>by simp only[TS.den];exact .agg (zoi e)
 |.tup e=>by simp only[TS.den];exact .tup (zoa e)
theorem zoa:∀a:List TS,∀p∈yo a,Fl p
 |[],p,h=>by simp[yo]at h
 |x::a,p,h=>by
  simp only[yo,wc1]at h;rcases h with rfl|h
  ·exact zbp x
  ·exact zoa a p h
theorem zoi:∀a:List TS,∀p∈qd a,Fl p
 |[],p,h=>by simp[qd]at h
 |x::a,p,h=>by
  simp only[qd,wco]at h;rcases h with h|h
  ·exact(zbp x).cells p h
  ·exact zoi a p h
end
def FlB(x:zlj):Prop:=∀a,x.body=some a->∀c∈a.cs,Fl c
theorem BD_fl(i v:Nat)(b:BD):∀c∈(b.den i v).cs,Fl c:=λc a=>by
 have flat:∀{t:Ty}{l:List t.D},c∈l.flatMap (jq t)->Fl c:=λ{t l}h=>by
  obtain⟨x,_,o⟩:=wds.1 h;exact .noP (yg t x c o)
 have cell:∀{n:Nat}{h:Hole},c∈(List.range n).map (h.cell i v)->Fl c:=λ{n h}m=>by
  obtain⟨j,_,rfl⟩:=wcz.1 m;unfold Hole.cell;split
  ·exact .unk
  ·exact .ps trivial
 cases b with
 |row d t l=>exact flat a
 |rowx d k e=>exact zoi e c a
 |box d e=>exact zoi e c a
 |obj k x=>cases k<;>simp[BD.den,RK.den,jf8,PBody.cs]at a
 |que d t l=>exact flat a
 |rows d p t l kv h=>exact cell a
 |mrows s p t r kv h=>exact cell a
 |iter q f n g=>simp only[BD.den,itB,PBody.cs,wci]at a;subst a;exact .ps trivial
theorem jb6(i:Nat)(x:GB):FlB (v6 i x):=λd h c a=>by
 unfold v6 at h;obtain⟨b,_,rfl⟩:=wcs.1 h;exact BD_fl i _ b c a
theorem jb0{b:BD}{j:Nat}{bd:PBody}(h:b.ch j=some bd):∀c∈bd.cs,NoP c:=by
 have a:∀{d:TypeId}{t:Ty}{r:List t.D},PBody.row d (wid t) r.length (r.flatMap (jq t))=bd->∀c∈bd.cs,NoP c:=λ{d t r}e c f=>by
  subst e;obtain⟨x,_,g⟩:=wds.1 f;exact yg t x c g
 unfold BD.ch at h;split at h<;>try (cases h;done)
 all_goals
  split at h<;>try (cases h;done)
  obtain⟨r,_,e⟩:=wcs.1 h;exact a e
theorem jdh(x:GB)(j:Nat):FlB (zac x j):=λd h c a=>by
 unfold zac at h;obtain⟨b,_,h⟩:=wdm.1 h;exact .noP (jb0 h c a)
theorem jlm(x:GB)(k:Nm):FlB (Qe x k):=by
 cases k with
 |o i=>exact jb6 i x
 |c i j=>exact jdh x j
 |r y=>intro a h;cases h
structure FlW(W:Env)(F:PFrame)(H:PHeap):Prop where
 g:∀i,Fl (W.G i)
 f:∀t,Fl (F t)
 h:∀k,FlB (H k)
section
variable{Z:ZM}{H H' : PHeap}{V V' : Nm → Value}{w:World}{b:Nat}
theorem Rp.keep{S:Nm->Nat->Prop}{p:PV}{v:Value}(h:Rp Z H V w p v)(hi:NmAll S p)
  (hz:∀c,c<w.heap.size->¬PZ Z H V c->¬PZ Z H' V' c)
  (k:∀i e,S i e->e<=(H i).ver->e<=(H' i).ver/\((H' i).body.isSome=true->(H' i).ver=e->(H i).body.isSome=true/\(H i).ver=e/\V' i=V i)):Rp Z H' V' w p v:=by
 induction hi generalizing v with
 |noP z=>exact Rp.noP h z hz
 |unk=>exact .unk v
 |ps f=>
  cases h with|ps _ _ _ g h=>exact .ps _ _ v (k _ _ f g).1 λl m=>by obtain⟨a,b,c⟩:=(k _ _ f g).2 l m;rw[c];exact h a b
 |qs f=>
  cases h with|qs _ _ _ _ _ g h=>exact .qs _ _ _ _ v (k _ _ f g).1 λl m=>by obtain⟨a,b,c⟩:=(k _ _ f g).2 l m;rw[c];exact h a b
 |pp f=>
  cases h with|pp _ _ _ _ g h=>exact .pp _ _ _ v (k _ _ f g).1 λl m=>by obtain⟨a,b,c⟩:=(k _ _ f g).2 l m;rw[c];exact h a b
 |fn _ _ t u=>
  cases h with|fn _ _ _ A vb q r y n=>exact .fn _ _ _ A vb q r (λi p v d j=>t p (wck d) (y i p v d j)) (λi p v d j=>u p (wck d) (n i p v d j))
 |agg _ s=>cases h with|agg _ x o h=>exact .agg _ x o λi p v d j=>s p (wck d) (h i p v d j)
 |tup _ s=>cases h with|tup _ x o h=>exact .tup _ x o λi p v d j=>s p (wck d) (h i p v d j)
def jiw(Z:ZM)(H H':PHeap)(V V':Nm->Value)(w:World)(X:Nat):MV->Prop
 |.id i b=>(∀v,Rp Z H V w (.ps (.o i) b) v->Rp Z H' V' w (.ps (.o X) 1) v)/\∀a v,Rp Z H V w (.pp (.o i) a b) v->Rp Z H' V' w (.pp (.o X) a 1) v
 |.nil=>Rp Z H' V' w (.ps (.o X) 1) (.slice none 0 0)
theorem zn4{a c:List Dyn}{d:Dyn}{ds:List Dyn}(h:ds=a++d::c):nth ds a.length=d:=by subst h;unfold nth;simp
theorem RpL.append{ps qs:List PV}{vs us:List Value}(a:RpL Z H V w ps vs)(d:RpL Z H V w qs us):RpL Z H V w (ps++qs) (vs++us):=⟨by simp[a.1,d.1],λi p v b c=>by
 by_cases e:i<ps.length
 ·rw[wcr e]at b;rw[wcr (by rw[<- a.1];exact e)]at c;exact a.2 i p v b c
 ·rw[wct (by omega)]at b;rw[wct (by rw[<- a.1];omega),<- a.1]at c;exact d.2 _ p v b c⟩
theorem RpL.split{ps qs:List PV}{vs:List Value}(h:RpL Z H V w (ps++qs) vs):RpL Z H V w ps (vs.take ps.length)/\RpL Z H V w qs (vs.drop ps.length):=by
 have d:=h.1;simp at d;refine⟨⟨by simp;omega,λi p v b a=>?_⟩,⟨by simp;omega,λi p v b a=>?_⟩⟩
 ·have c:=(wcg.1 b).1;refine h.2 i p v (by rw[wcr c];exact b) ?_;rw[wd7,if_pos c]at a;exact a
 ·refine h.2 (ps.length+i) p v (by rw[wct (by omega),weq];exact b) ?_;rw[wdv]at a;exact a
theorem jjz{xs:List PV}{v:Value}(h:Rp Z H V w (.agg xs) v):∃a:Array Value,v=.agg a/\RpL Z H V w xs a.toList:=by
 cases h with
 |agg _ a d h=>exact⟨a,rfl,by simpa using d,λi p u b c=>h i p u b (by simpa using c)⟩
theorem z2g{xs:List PV}{vs:Array Value}(h:RpL Z H V w xs vs.toList):Rp Z H V w (.agg xs) (.agg vs) :=.agg _ _ (by simpa using h.1) λi p v a b=>h.2 i p v a (by simpa using b)
theorem jir{s t:TS}(g:∀v,Rp Z H V w s.den v->Rp Z H' V' w t.den v)(j:Yh s=Yh t){vs:List Value}(h:RpL Z H V w s.den.cells vs):RpL Z H' V' w t.den.cells vs:=by
 cases a:Yh s
 ·have b:=Z6 a;have c:=Z6 (j▸a);rw[b]at h;rw[c]
  match vs,h with
  |[v],h=>exact⟨rfl,λi m u d f=>by
    cases i with
    |zero=>simp at d f;subst d f;exact g _ (h.2 0 _ v rfl rfl)
    |succ i=>simp at d⟩
  |[],h=>have:=h.1;simp at this
  |_::_::_,h=>have:=h.1;simp at this
 ·have b:=zer a;have c:=zer (j▸a);have k:Rp Z H V w s.den (.agg vs.toArray):=by rw[b];exact z2g (by simpa using h)
  have:=g _ k;rw[c]at this;obtain⟨us,e,l⟩:=jjz this;cases e;simpa using l
theorem jk6{ds pre post:List Dyn}{h:HS}{s:TS}{r:PR}(e:Qr h s=some r)(b:ds=pre++r.1++post)(f:h ≠ .dead):Yh (unT ds h pre.length)=zxe h:=by
 cases h with
 |v t=>
  simp only[Qr]at e;split at e<;>cases e;rename_i x g;simp only[unT,Yh,zxe];rw[zn4 (a:=pre) (c:=post) (d:=⟨t,x⟩) (by rw[b];simp)]
 |dead=>exact absurd rfl f
 |_=>simp only[unT,Yh,zxe]
def TreeOk(Z:ZM)(H H':PHeap)(V V':Nm->Value)(w:World)(ds:List Dyn)(h:HS)(s:TS)(r:PR)(j:Nat):Prop:=
 r.1.length=zlw h/\(∀v,Rp Z H V w s.den v->Rp Z H' V' w (unT ds h j).den v)
theorem jl2{s:TS}{xs:List TS}(h:zdk s=some xs){v:Value}(a:Rp Z H V w s.den v):∃b:Array Value,v=.agg b/\RpL Z H V w (qd xs) b.toList:=by
 rw[zgq h]at a;exact jjz a
mutual
theorem jae(q:∀p v,NoP p->Rp Z H V w p v->Rp Z H' V' w p v)(ds:List Dyn):∀(h:HS)(s:TS)(r:PR)(pre post:List Dyn),Qr h s=some r->ds=pre++r.1++post->(∀m∈r.2,jiw Z H H' V V' w m.1 m.2)->TreeOk Z H H' V V' w ds h s r pre.length
 |.v t,s,r,pre,post,e,g,l=>by
  simp only[Qr]at e;split at e<;>cases e;rename_i x u;refine⟨rfl,λv j=>?_⟩;simp only[unT,TS.den];rw[zn4 (a:=pre) (c:=post) (d:=⟨t,x⟩) (by rw[g];simp)];exact q _ _ (zb7 _ _) ((zbt _ _ _ u).2 _ _ _ _ _ j)
 |.rd t,s,r,pre,post,e,g,l=>by
  simp only[Qr]at e;split at e<;>try (cases e;done)
  rename_i d;split at e<;>cases e;rename_i x u;have:=wag u;subst this;refine⟨rfl,λv j=>?_⟩;simp only[unT,TS.den]at j⊢;rw[zn4 (a:=pre) (c:=post) (d:=⟨t,x⟩) (by rw[g];simp)];exact q _ _ (.rp _ (yg _ _)) j
 |.own X,s,r,pre,post,e,g,l=>by
  simp only[Qr]at e;split at e<;>try (cases e;done)
  ·rename_i id A;cases e;refine⟨rfl,λv j=>?_⟩;simp only[unT,TS.den]at j⊢;exact(l (X,.id id A) (by simp)).1 v j
  ·split at e<;>cases e;rename_i v0 hn;refine⟨rfl,λv j=>?_⟩;rw[zut hn]at j;simp only[TS.den,ofV]at j;cases j;simp only[unT,TS.den];exact l (X,.nil) (by simp)
 |.pt X M,s,r,pre,post,e,g,l=>by
  simp only[Qr]at e;split at e<;>try (cases e;done)
  rename_i id P A;split at e<;>cases e;rename_i ho;have:=wcj ho;subst this;refine⟨rfl,λv j=>?_⟩;simp only[unT,TS.den]at j⊢;exact(l (X,.id id A) (by simp)).2 M v j
 |.dead,s,r,pre,post,e,g,l=>by
  simp only[Qr]at e;cases e;exact⟨rfl,λv _=>by simp only[unT,TS.den];exact .unk v⟩
 |.ci k z,s,r,pre,post,e,g,l=>by
  simp only[Qr]at e;split at e<;>try (cases e;done)
  split at e<;>cases e;rename_i D;simp only[wcl,wcy]at D;have B:=Ty.eqB_eq D.1;have C:=D.2;cases B;subst C;refine⟨rfl,λv j=>?_⟩;simp only[unT];exact q _ _ (by simp only[TS.den];exact zhm _) j
 |.cb b,s,r,pre,post,e,g,l=>by
  simp only[Qr]at e;split at e<;>try (cases e;done)
  split at e<;>cases e;rename_i D;have C:=eq_of_beq D;subst C;refine⟨rfl,λv j=>?_⟩;simp only[unT];exact q _ _ (by simp only[TS.den];exact zhm _) j
 |.fn f a b,s,r,pre,post,e,g,l=>by
  simp only[Qr]at e;split at e<;>try (cases e;done)
  rename_i f' S T;split at e<;>try (cases e;done)
  rename_i W;have:=wcj W;subst this;obtain⟨x,y,u,hy,rfl⟩:=zbu e;simp only[wai]at g l;have K:=zur q ds a S x pre (y.1++post) u (by rw[g];simp) (λm G=>l m (by simp[G]));have L:=zur q ds b T y (pre++x.1) post hy (by rw[g];simp) (λm G=>l m (by simp[G]));have U:(pre++x.1).length=pre.length+zc0 a:=by simp[K.1]
  rw[U]at L;refine⟨by simp[wai,zlw,K.1,L.1],λv j=>?_⟩;simp only[TS.den,unT]at j⊢;cases j with
  |fn _ _ _ va vb E F B C=>
   have Q:=K.2 va.toList ⟨by simpa using E,λi p v n o=>B i p v n (by simpa using o)⟩;have R:=L.2 vb.toList ⟨by simpa using F,λi p v n o=>C i p v n (by simpa using o)⟩;exact .fn _ _ _ _ _ (by simpa using Q.1) (by simpa using R.1) (λi p v n o=>Q.2 i p v n (by simpa using o)) (λi p v n o=>R.2 i p v n (by simpa using o))
 |.agg I,s,r,pre,post,e,g,l=>by
  simp only[Qr]at e;split at e<;>try (cases e;done)
  rename_i O u;have k:=zuz q ds I O r pre post e g l;refine⟨by simp[zlw,k.1],λv j=>?_⟩;obtain⟨N,rfl,B⟩:=jl2 u j;simp only[unT,TS.den];exact z2g (k.2 _ B)
 |.tup I,s,r,pre,post,e,g,l=>by
  simp only[Qr]at e;split at e<;>try (cases e;done)
  rename_i O;have k:=zur q ds I O r pre post e g l;refine⟨by simp[zlw,k.1],λv j=>?_⟩;simp only[unT,TS.den]at j⊢;cases j with
  |tup _ N J Y=>
   have:=k.2 N.toList ⟨by simpa using J,λi p v n o=>Y i p v n (by simpa using o)⟩;exact .tup _ N (by simpa using this.1) (λi p v n o=>this.2 i p v n (by simpa using o))
theorem zur(t:∀p v,NoP p->Rp Z H V w p v->Rp Z H' V' w p v)(ds:List Dyn):∀(g:List HS)(xs:List TS)(r:PR)(pre post:List Dyn),zal g xs=some r->ds=pre++r.1++post->(∀m∈r.2,jiw Z H H' V V' w m.1 m.2)->r.1.length=zc0 g/\∀d,RpL Z H V w (yo xs) d->RpL Z H' V' w (yo (zis ds g pre.length)) d
 |[],xs,r,pre,post,c,a,j=>by
  cases xs with
  |nil=>simp only[zal]at c;cases c;exact⟨rfl,λd h=>by simp only[zis,yo]at h⊢;exact⟨h.1,λi p v k=>by simp at k⟩⟩
  |cons _ _=>simp[zal]at c
 |h::g,xs,r,pre,post,c,a,j=>by
  cases xs with
  |nil=>simp[zal]at c
  |cons x xs=>
   simp only[zal]at c;obtain⟨q,y,A,B,rfl⟩:=zbu c;simp only[wai]at a j;have n:=jae t ds h x q pre (y.1++post) A (by rw[a];simp) (λm l=>j m (by simp[l]));have o:=zur t ds g xs y (pre++q.1) post B (by rw[a];simp) (λm l=>j m (by simp[l]));have z:(pre++q.1).length=pre.length+zlw h:=by simp[n.1]
   rw[z]at o;refine⟨by simp[wai,zc0,n.1,o.1],λd b=>?_⟩;simp only[yo,zis]at b⊢
   match d,b with
   |[],b=>have:=b.1;simp at this
   |u::d,b=>
    have s:=o.2 d ⟨by have:=b.1;simpa using this,λi p v e f=>b.2 (i+1) p v (by simpa using e) (by simpa using f)⟩;have k:=n.2 u (b.2 0 _ u rfl rfl);refine⟨by simp[s.1],λi p v e f=>?_⟩;cases i with
    |zero=>simp at e f;subst e f;exact k
    |succ i=>exact s.2 i p v (by simpa using e) (by simpa using f)
theorem zuz(D:∀p v,NoP p->Rp Z H V w p v->Rp Z H' V' w p v)(ds:List Dyn):∀(j:List HS)(xs:List TS)(r:PR)(pre post:List Dyn),za5 j xs=some r->ds=pre++r.1++post->(∀m∈r.2,jiw Z H H' V V' w m.1 m.2)->r.1.length=zc0 j/\∀l,RpL Z H V w (qd xs) l->RpL Z H' V' w (qd (zis ds j pre.length)) l
 |[],xs,r,pre,post,d,c,n=>by
  cases xs with
  |nil=>simp only[za5]at d;cases d;exact⟨rfl,λl h=>by simp only[zis,qd]at h⊢;exact⟨h.1,λi p v a=>by simp at a⟩⟩
  |cons _ _=>simp[za5]at d
 |h::j,xs,r,pre,post,d,c,n=>by
  simp only[za5]at d;split at d<;>try (cases d;done)
  rename_i k x;split at d<;>try (cases d;done)
  rename_i g;obtain⟨q,y,z,L,rfl⟩:=zbu d;simp only[wai]at c n;have A:=jae D ds h _ q pre (y.1++post) z (by rw[c];simp) (λm u=>n m (by simp[u]));have B:=zuz D ds j k.2 y (pre++q.1) post L (by rw[c];simp) (λm u=>n m (by simp[u]));have I:(pre++q.1).length=pre.length+zlw h:=by simp[A.1]
  rw[I]at B;refine⟨by simp[wai,zc0,A.1,B.1],λl F=>?_⟩;obtain⟨N,G⟩:=Q3 _ _ _ _ x;rw[<- N]at F;obtain⟨C,O⟩:=RpL.split F;simp only[zis,qd];have e:=Z0 g;have M:RpL Z H' V' w (unT ds h pre.length).den.cells (l.take (qd k.1).length):=by
   by_cases f:h=.dead
   ·subst f;simp only[unT,TS.den,PV.cells];have t:=C.1;rw[G]at t;simp only[jnf]at t;rw[G];simp only[jnf];refine⟨by simpa using t,λi p v o P=>?_⟩;cases i with
    |zero=>simp at o;subst o;exact .unk v
    |succ i=>simp at o
   ·by_cases b:Yh (zct (zxe h) k.1)=zxe h
    ·rw[<- e]at C;rw[<- e];exact jir A.2 (by rw[b,jk6 (post:=y.1++post) z (by rw[c];simp) f]) C
    ·exfalso;cases E:zxe h
     ·rw[E]at b z g;have a:Yh (zct false k.1)=true:=by cases K:Yh (zct false k.1);exact absurd K b;rfl
      unfold zct at a;simp only at a;split at a
      ·split at a
       ·rename_i s;rw[s]at a;cases a
       ·split at a
        ·split at a
         ·rename_i s;rw[s]at a;cases a
         ·simp[Yh]at a
        ·simp[Yh]at a
      ·simp[Yh]at a
     ·rw[E]at b;apply b;unfold zct;simp only;split
      ·split
       ·assumption
       ·rfl
      ·rfl
  have:=RpL.append M (B.2 _ O);rwa [wdq]at this
end
end
end
end Go.Proofs.YtigdmmgklieofaaGreat.T
