/-
  Texts of this proof, put together: La, Lb, Lc, Ld, Le, Lf, Lg, Lh, Li, Lj, Lk, Lm, Lq, Lr, Ls, Lt, Lw, Lx, Lv, Lz.
-/
import Derived.WalkKit
import Derived.StillTail
import Derived.Deep.Quiet
import Derived.Laws.MakeOwn
import Derived.IntWalk
import Derived.Lib.Hide
namespace Go.Proofs.YtdllbdlnmjngcaaGreat
theorem wd2 : type_of% @List.getElem?_eq_getElem := @List.getElem?_eq_getElem
theorem wd3 : type_of% @of_decide_eq_true := @of_decide_eq_true
theorem wd4 : type_of% @of_decide_eq_false := @of_decide_eq_false
theorem wd5 : type_of% @List.getElem?_eq_some_iff := @List.getElem?_eq_some_iff
theorem wd6 : type_of% @List.length_replicate := @List.length_replicate
theorem wd7 : type_of% @List.mem_of_getElem? := @List.mem_of_getElem?
theorem wd8 : type_of% @Bool.and_eq_true := @Bool.and_eq_true
theorem wd9 : type_of% @Nat.eq_of_beq_eq_true := @Nat.eq_of_beq_eq_true
theorem wea : type_of% @List.mem_singleton := @List.mem_singleton
theorem web : type_of% @List.getElem?_map := @List.getElem?_map
theorem wec : type_of% @List.getElem_mem := @List.getElem_mem
theorem wed : type_of% @decide_eq_true_eq := @decide_eq_true_eq
theorem wee : type_of% @Option.map_eq_some_iff := @Option.map_eq_some_iff
theorem wef : type_of% @List.mem_map := @List.mem_map
theorem weg : type_of% @List.getElem?_append_left := @List.getElem?_append_left
theorem weh : type_of% @Nat.le_refl := @Nat.le_refl
theorem wei : type_of% @List.getElem?_append_right := @List.getElem?_append_right
theorem wej : type_of% @List.mem_append := @List.mem_append
theorem wek : type_of% @List.eq_nil_of_length_eq_zero := @List.eq_nil_of_length_eq_zero
theorem wel : type_of% @List.take_succ_eq_append_getElem := @List.take_succ_eq_append_getElem
theorem wem : type_of% @Int.toNat_natCast := @Int.toNat_natCast
theorem wen : type_of% @List.map_cons := @List.map_cons
theorem weo : type_of% @List.length_append := @List.length_append
theorem wep : type_of% @List.mem_cons := @List.mem_cons
theorem weq : type_of% @List.append_nil := @List.append_nil
theorem wer : type_of% @Option.map_some := @Option.map_some
theorem wes : type_of% @List.getElem?_of_mem := @List.getElem?_of_mem
theorem wet : type_of% @Array.getElem?_eq_getElem := @Array.getElem?_eq_getElem
theorem weu : type_of% @List.append_assoc := @List.append_assoc
theorem wev : type_of% @List.getElem?_set := @List.getElem?_set
theorem wew : type_of% @Array.getElem?_eq_some_iff := @Array.getElem?_eq_some_iff
theorem wex : type_of% @List.flatMap_cons := @List.flatMap_cons
theorem wey : type_of% @List.length_map := @List.length_map
theorem wez : type_of% @List.length_singleton := @List.length_singleton
theorem we0 : type_of% @List.all_eq_true := @List.all_eq_true
theorem we1 : type_of% @List.take_length := @List.take_length
theorem we2 : type_of% @List.length_cons := @List.length_cons
theorem we3 : type_of% @Array.getD_eq_getD_getElem? := @Array.getD_eq_getD_getElem?
theorem we4 : type_of% @Bool.false_eq_true := @Bool.false_eq_true
theorem we5 : type_of% @List.getElem?_drop := @List.getElem?_drop
theorem we6 : type_of% @Option.some.injEq := @Option.some.injEq
theorem we7 : type_of% @List.drop_eq_getElem_cons := @List.drop_eq_getElem_cons
theorem we8 : type_of% @List.getD_eq_getElem?_getD := @List.getD_eq_getElem?_getD
theorem we9 : type_of% @List.map_congr_left := @List.map_congr_left
theorem wfa : type_of% @Nat.zero_add := @Nat.zero_add
theorem wfb : type_of% @decide_eq_true := @decide_eq_true
theorem wfc : type_of% @List.length_drop := @List.length_drop
theorem wfd : type_of% @Option.getD_some := @Option.getD_some
theorem wfe : type_of% @List.mem_flatMap := @List.mem_flatMap
theorem wff : type_of% @List.map_map := @List.map_map
theorem wfg : type_of% @List.length_take := @List.length_take
theorem wfh : type_of% @List.take_append_drop := @List.take_append_drop
theorem wfi : type_of% @List.foldl_append := @List.foldl_append
theorem wfj : type_of% @List.ext_getElem? := @List.ext_getElem?
theorem wfk : type_of% @List.map_nil := @List.map_nil
theorem wfl : type_of% @List.map_append := @List.map_append
theorem wfm : type_of% @List.getElem?_take := @List.getElem?_take
theorem wfn : type_of% @Nat.le_trans := @Nat.le_trans
theorem wfo : type_of% @Option.isSome_iff_exists := @Option.isSome_iff_exists
theorem wfp : type_of% @Option.bind_some := @Option.bind_some
theorem wfq : type_of% @Int.eq_ofNat_of_zero_le := @Int.eq_ofNat_of_zero_le
theorem wfr : type_of% @Nat.add_mul := @Nat.add_mul
theorem wfs : type_of% @List.take_of_length_le := @List.take_of_length_le
theorem wft : type_of% @Bool.or_eq_true := @Bool.or_eq_true
theorem wfu : type_of% @Nat.add_zero := @Nat.add_zero
theorem wfv : type_of% @List.getElem?_eq_none := @List.getElem?_eq_none
theorem wfw : type_of% @List.getElem?_replicate := @List.getElem?_replicate
theorem wfx : type_of% @List.nil_append := @List.nil_append
theorem wfy : type_of% @Option.some.inj := @Option.some.inj
theorem wfz : type_of% @List.length_set := @List.length_set
theorem wf0 : type_of% @List.getElem?_mapIdx := @List.getElem?_mapIdx
theorem wf1 : type_of% @Nat.le_of_ble_eq_true := @Nat.le_of_ble_eq_true
theorem wf2 : type_of% @List.drop_length := @List.drop_length
theorem wf3 : type_of% @Classical.byContradiction := @Classical.byContradiction
theorem wf4 : type_of% @List.mem_or_eq_of_mem_set := @List.mem_or_eq_of_mem_set
theorem wf5 : type_of% @decide_eq_false := @decide_eq_false
theorem wf6 : type_of% @List.flatMap_append := @List.flatMap_append
theorem wf7 : type_of% @List.mem_range := @List.mem_range
theorem wf8 : type_of% @Nat.mod_two_eq_zero_or_one := @Nat.mod_two_eq_zero_or_one
theorem wf9 : type_of% @Nat.add_comm := @Nat.add_comm
theorem wga : type_of% @List.pairwise_cons := @List.pairwise_cons
theorem wgb : type_of% @List.getElem_of_mem := @List.getElem_of_mem
theorem wgc : type_of% @Classical.not_not := @Classical.not_not
theorem wgd : type_of% @List.getElem?_cons_succ := @List.getElem?_cons_succ
theorem wge : type_of% @List.getElem?_cons_zero := @List.getElem?_cons_zero
theorem wgf : type_of% @Option.bind_eq_some_iff := @Option.bind_eq_some_iff
theorem wgg : type_of% @Nat.mul_le_mul_right := @Nat.mul_le_mul_right
theorem wgh : type_of% @List.mem_of_mem_drop := @List.mem_of_mem_drop
theorem wgi : type_of% @List.mem_of_mem_take := @List.mem_of_mem_take
theorem wgj : type_of% @Nat.add_assoc := @Nat.add_assoc
theorem wgk : type_of% @Array.getElem?_setIfInBounds_ne := @Array.getElem?_setIfInBounds_ne
theorem wgl : type_of% @List.mapM_cons := @List.mapM_cons
theorem wgm : type_of% @Nat.zero_le := @Nat.zero_le
theorem wgn : type_of% @List.drop_zero := @List.drop_zero
theorem wgo : type_of% @List.drop_left' := @List.drop_left'
theorem wgp : type_of% @List.length_nil := @List.length_nil
theorem wgq : type_of% @List.any_eq_true := @List.any_eq_true
theorem wgr : type_of% @List.mem_append_left := @List.mem_append_left
theorem wgs : type_of% @List.length_filter_le := @List.length_filter_le
theorem wgt : type_of% @Array.getElem?_append := @Array.getElem?_append
theorem wgu : type_of% @Nat.mul_one := @Nat.mul_one
theorem wgv : type_of% @Array.setIfInBounds_comm := @Array.setIfInBounds_comm
theorem wgw : type_of% @Bool.true_and := @Bool.true_and
theorem wgx : type_of% @Prod.mk.injEq := @Prod.mk.injEq
theorem wgy : type_of% @List.take_append_of_le_length := @List.take_append_of_le_length
theorem wgz : type_of% @Nat.lt_succ_self := @Nat.lt_succ_self
theorem wg0 : type_of% @List.map_toArray := @List.map_toArray
theorem wg1 : type_of% @Nat.blt_eq := @Nat.blt_eq
theorem wg2 : type_of% @Nat.sub_self := @Nat.sub_self
theorem wg3 : type_of% @List.take_left' := @List.take_left'
theorem wg4 : type_of% @List.Pairwise.sublist := @List.Pairwise.sublist
theorem wg5 : type_of% @Bool.not_eq_true' := @Bool.not_eq_true'
theorem wg6 : type_of% @List.mem_cons_of_mem := @List.mem_cons_of_mem
theorem wg7 : type_of% @List.pairwise_append := @List.pairwise_append
theorem wg8 : type_of% @Nat.beq_refl := @Nat.beq_refl
theorem wg9 : type_of% @Nat.lt_or_ge := @Nat.lt_or_ge
theorem wha : type_of% @List.cons_append := @List.cons_append
theorem whb : type_of% @List.ext_getElem := @List.ext_getElem
theorem whc : type_of% @List.flatMap_nil := @List.flatMap_nil
theorem whd : type_of% @List.foldl_cons := @List.foldl_cons
theorem whe : type_of% @List.mem_filter := @List.mem_filter
end Go.Proofs.YtdllbdlnmjngcaaGreat

namespace Go.Proofs.YtdllbdlnmjngcaaGreat.L
set_option maxRecDepth 100000
set_option maxHeartbeats 8000000
set_option linter.unusedVariables false
set_option linter.unusedSimpArgs false
open Go Go.RowKit
inductive PV where
 |u (v:Value)
 |unk
 |agg (cs:List PV)
 |tup (cs:List PV)
 |sl (k:Nat) (xs:List PV)
 |fr (t:TypeId) (k:Nat) (xs:List PV)
 |rp (cs:List PV)
 |ps (id ver:Nat)
 |qs (id off k ver:Nat)
 |pp (id off ver:Nat)
 |fn (f:Fn) (a b:List PV)
 deriving Inhabited
def PV.cells:PV->List PV
 |.agg cs=>cs
 |p=>[p]
inductive PBody where
 |row (t:TypeId) (k n:Nat) (cs:List PV)
 |box (t:TypeId) (cs:List PV)
 |raw (p:Bool) (cs:List PV) (φ:Nat->Obj->List Value->Prop)
structure zcb where
 ver:Nat
 body:Option PBody
abbrev PHeap:=Nat->zcb
abbrev PFrame:=Nat->PV
def PHeap.empty:PHeap:=λ_=>⟨0,none⟩
def PHeap.set(H:PHeap)(id:Nat)(b:zcb):PHeap:=λi=>if i=id then b else H i
def PFrame.put(F:PFrame)(d:Option Nat)(p:PV):PFrame:=λt=>if d=some t then p else F t
def zpw(off k:Nat)(V v:Value):Prop:=
 ∃a n c a',V=.slice a n c/\v=.slice a' (n-off) (c-off)/\off<=n/\n<=c/\((a=none/\a'=none)\/∃b o,a=some ⟨b,0,none⟩/\a'=some ⟨b,o,none⟩/\(o=off*k\/c=off))
def rawV(p:Bool)(g:Nat):Value:=match p with
 |true => .pointer (some ⟨g,0,none⟩)
 |false => .map (some g)
def z6h(es:List (Value×Value)):PBody :=.raw false [] λ_ o _=>∃arr clock,o=.map arr clock/\arr.toList.map (λe=>(e.key,e.val))=es
def qc:Value->Option Nat
 |.slice (some a) _ _=>some a.block
 |.pointer (some a)=>some a.block
 |.map (some b)=>some b
 |_=>none
theorem zki(p:Bool)(g:Nat):qc (rawV p g)=some g:=by cases p<;>rfl
structure ZM where
 z:Nat->Prop
 m:Nat
instance:CoeFun ZM λ_=>Nat->Prop:=⟨ZM.z⟩
def PZ(Z:ZM)(H:PHeap)(V:Nat->Value)(b:Nat):Prop:=Z b\/∃id,(H id).body.isSome=true/\qc (V id)=some b
inductive Rp(Z:ZM)(H:PHeap)(V:Nat->Value)(w:World):PV->Value->Prop
 |u (v:Value):Rp Z H V w (.u v) v
 |unk (v:Value):Rp Z H V w .unk v
 |agg (cs:List PV) (vs:Array Value) (hl:cs.length=vs.size) (h:∀(i:Nat)(p:PV)(v:Value),cs[i]?=some p->vs[i]?=some v->Rp Z H V w p v):Rp Z H V w (.agg cs) (.agg vs)
 |tup (cs:List PV) (vs:Array Value) (hl:cs.length=vs.size) (h:∀(i:Nat)(p:PV)(v:Value),cs[i]?=some p->vs[i]?=some v->Rp Z H V w p v):Rp Z H V w (.tup cs) (.tuple vs)
 |nil (k:Nat) (a:Option Addr) (c:Nat):Rp Z H V w (.sl k []) (.slice a 0 c)
 |sl (k:Nat) (xs:List PV) (b o c:Nat) (g:Nat->Value) (hu:∀y∈xs,y.cells.length=k) (hlen:xs.length<=c)
   (hz:¬PZ Z H V b) (hb:b<w.heap.size)
   (h1:∀(i:Nat)(p:PV),(xs.flatMap PV.cells)[i]?=some p->w.cell? ⟨b,o+i,none⟩=some (g i))
   (h2:∀(i:Nat)(p:PV),(xs.flatMap PV.cells)[i]?=some p->Rp Z H V w p (g i)):Rp Z H V w (.sl k xs) (.slice (some ⟨b,o,none⟩) xs.length c)
 |fr (t:TypeId) (k:Nat) (xs:List PV) (v:Value) (vals:List Value) (hu:∀y∈xs,y.cells.length=k) (ho:w.ownsRow Z.m t k v xs.length vals)
   (hz:∀b,qc v=some b->¬PZ Z H V b) (h1:∀u∈vals,u.oneCell'=true)
   (h2:∀(i:Nat)(p:PV)(u:Value),(xs.flatMap PV.cells)[i]?=some p->vals[i]?=some u->Rp Z H V w p u):Rp Z H V w (.fr t k xs) v
 |rp (cs:List PV) (b o:Nat) (g:Nat->Value) (hz:¬PZ Z H V b) (hb:b<w.heap.size)
   (h1:∀(i:Nat)(p:PV),cs[i]?=some p->w.cell? ⟨b,o+i,none⟩=some (g i))
   (h2:∀(i:Nat)(p:PV),cs[i]?=some p->Rp Z H V w p (g i)):Rp Z H V w (.rp cs) (.pointer (some ⟨b,o,none⟩))
 |ps (id ver:Nat) (v:Value) (hv:ver<=(H id).ver) (h:(H id).body.isSome=true->(H id).ver=ver->v=V id):Rp Z H V w (.ps id ver) v
 |qs (id off k ver:Nat) (v:Value) (hv:ver<=(H id).ver) (h:(H id).body.isSome=true->(H id).ver=ver->zpw off k (V id) v):Rp Z H V w (.qs id off k ver) v
 |pp (id off ver:Nat) (v:Value) (hv:ver<=(H id).ver) (h:(H id).body.isSome=true->(H id).ver=ver->∃g,qc (V id)=some g/\v=.pointer (some ⟨g,off,none⟩)):Rp Z H V w (.pp id off ver) v
 |fn (f:Fn) (a b:List PV) (va vb:Array Value) (hla:a.length=va.size) (hlb:b.length=vb.size)
   (ha:∀(i:Nat)(p:PV)(v:Value),a[i]?=some p->va[i]?=some v->Rp Z H V w p v) (hb:∀(i:Nat)(p:PV)(v:Value),b[i]?=some p->vb[i]?=some v->Rp Z H V w p v):Rp Z H V w (.fn f a b) (.func f va vb)
theorem Y9{w w':World}{m m':Nat}{t:TypeId}{k n:Nat}{v:Value}{vals:List Value}(ho:w.ownsRow m t k v n vals)(hm:m'<=m)(hb:∀b,qc v=some b->b<w.heap.size->w'.heap[b]?=w.heap[b]?):w'.ownsRow m' t k v n vals:=⟨ho.1,by
 rcases ho.2 with h|⟨g,cap,cur,e,hg,hh,r⟩
 ·exact .inl h
 ·exact .inr ⟨g,cap,cur,e,by omega,by rw[hb g (by rw[e];rfl) (wew.1 hh).1];exact hh,r⟩⟩
theorem zel{w:World}{m:Nat}{t:TypeId}{k n:Nat}{v:Value}{vals:List Value}(ho:w.ownsRow m t k v n vals){b:Nat}(hb:qc v=some b):m<=b/\b<w.heap.size:=by
 rcases ho.2 with⟨e,_⟩|⟨g,cap,cur,e,hg,hh,r⟩
 ·rw[e]at hb;cases hb
 ·rw[e]at hb;cases hb;exact⟨hg,(wew.1 hh).1⟩
theorem Rp.mono{Z Z':ZM}{H H':PHeap}{V V':Nat->Value}{w w':World}{p:PV}{v:Value}(h:Rp Z H V w p v)
  (hc:∀b,¬PZ Z H V b->b<w.heap.size->¬PZ Z' H' V' b/\b<w'.heap.size/\w'.heap[b]?=w.heap[b]?)
  (hm:Z'.m<=Z.m)
  (hv:∀id,(H id).ver<=(H' id).ver)
  (hl:∀id ver,ver<=(H id).ver->(H' id).body.isSome=true->(H' id).ver=ver->(H id).body.isSome=true/\(H id).ver=ver/\V' id=V id):Rp Z' H' V' w' p v:=by
 induction h with
 |u v=>exact .u v
 |unk v=>exact .unk v
 |agg cs vs hl' h ih=>exact .agg cs vs hl' ih
 |tup cs vs hl' h ih=>exact .tup cs vs hl' ih
 |nil k a c=>exact .nil k a c
 |sl k xs b o c g hu hlen hz hb h1 h2 ih=>
  obtain⟨a1,a2,a3⟩:=hc b hz hb;exact .sl k xs b o c g hu hlen a1 a2 (λi p hi=>by rw[World.cell?_of_block a3];exact h1 i p hi) ih
 |fr t k xs v vals hu ho hz h1 h2 ih=>
  exact .fr t k xs v vals hu (Y9 ho hm λb hb hlt=>(hc b (hz b hb) hlt).2.2) (λb hb=>(hc b (hz b hb) (zel ho hb).2).1) h1 ih
 |rp cs b o g hz hb h1 h2 ih=>
  obtain⟨a1,a2,a3⟩:=hc b hz hb;exact .rp cs b o g a1 a2 (λi p hi=>by rw[World.cell?_of_block a3];exact h1 i p hi) ih
 |ps id ver v hv' h=>
  refine .ps id ver v (wfn hv' (hv id)) λh1 h2=>?_;obtain⟨a,b,c⟩:=hl id ver hv' h1 h2;rw[c];exact h a b
 |qs id off k ver v hv' h=>
  refine .qs id off k ver v (wfn hv' (hv id)) λh1 h2=>?_;obtain⟨a,b,c⟩:=hl id ver hv' h1 h2;rw[c];exact h a b
 |pp id off ver v hv' h=>
  refine .pp id off ver v (wfn hv' (hv id)) λh1 h2=>?_;obtain⟨a,b,c⟩:=hl id ver hv' h1 h2;rw[c];exact h a b
 |fn f a b va vb hla hlb ha hb iha ihb=>exact .fn f a b va vb hla hlb iha ihb
theorem Rp.grow{Z:ZM}{H:PHeap}{V:Nat->Value}{w w':World}{p:PV}{v:Value}(h:Rp Z H V w p v)(hb:Below w.heap.size w w'):Rp Z H V w' p v:=
 h.mono (λb hz hlt=>⟨hz,Nat.lt_of_lt_of_le hlt hb.size,hb.block b hlt⟩) (weh _) (λ_=>weh _) (λ_ _ _ h1 h2=>⟨h1,h2,rfl⟩)
def RpL(Z:ZM)(H:PHeap)(V:Nat->Value)(w:World)(cs:List PV)(vs:List Value):Prop:=
 cs.length=vs.length/\∀(i:Nat)(p:PV)(v:Value),cs[i]?=some p->vs[i]?=some v->Rp Z H V w p v
theorem RpL.mono{Z Z':ZM}{H H':PHeap}{V V':Nat->Value}{w w':World}{cs:List PV}{vs:List Value}(h:RpL Z H V w cs vs)
  (hm:∀p v,Rp Z H V w p v->Rp Z' H' V' w' p v):RpL Z' H' V' w' cs vs:=⟨h.1,λi p v h1 h2=>hm p v (h.2 i p v h1 h2)⟩
structure Env where
 w:World
 Z:ZM
 hm:Z.m<=w.heap.size
 /-- what waits: the slots of those that called, who share the own heap -/
 G:Nat->PV:=λ_=> .unk
 gv:Nat->Value:=λ_=>undef
structure HRel(P:Program)(W:Env)(H:PHeap)(V:Nat->Value)(w:World):Prop where
 below:Below W.w.heap.size W.w w
 row:∀id t k n cs,(H id).body=some (.row t k n cs)->∃vals,w.ownsRow W.w.heap.size t k (V id) n vals/\RpL W.Z H V w cs vals/\∀v∈vals,v.oneCell'=true
 box:∀id t cs,(H id).body=some (.box t cs)->∃g arr,V id=.pointer (some ⟨g,0,none⟩)/\W.w.heap.size<=g/\w.heap[g]?=some (.cells arr t (0,0))/\RpL W.Z H V w cs arr.toList/\∀v∈arr.toList,v.oneCell'=true
 map:∀id p cs φ,(H id).body=some (.raw p cs φ)->∃g o vs,V id=rawV p g/\W.w.heap.size<=g/\w.heap[g]?=some o/\φ g o vs/\RpL W.Z H V w cs vs
 ghost:∀i,Rp W.Z H V w (W.G i) (W.gv i)
 apart:∀id id' g,(H id).body.isSome=true->(H id').body.isSome=true->qc (V id)=some g->qc (V id')=some g->id=id'
 zlt:∀b,W.Z b->b<w.heap.size
 nz:∀id b,(H id).body.isSome=true->qc (V id)=some b->¬W.Z b
theorem HRel.own_lt{P:Program}{W:Env}{H:PHeap}{V:Nat->Value}{w:World}(h:HRel P W H V w){id b:Nat}(hs:(H id).body.isSome=true)(hb:qc (V id)=some b):W.w.heap.size<=b/\b<w.heap.size:=by
 cases hbd:(H id).body with
 |none=>rw[hbd]at hs;cases hs
 |some bd=>
  cases bd with
  |row t k n cs=>
   obtain⟨vals,ho,_⟩:=h.row id t k n cs hbd;have:(V id).ownBlock=some b:=by
    rcases ho.2 with⟨e,_⟩|⟨g,cap,cur,e,_⟩
    ·rw[e]at hb;cases hb
    ·rw[e]at hb⊢;exact hb
   exact ho.lt b this
  |box t cs=>
   obtain⟨g,arr,e,hg,hh,_⟩:=h.box id t cs hbd;rw[e]at hb;cases hb;exact⟨hg,(wew.1 hh).1⟩
  |raw p cs φ=>
   obtain⟨g,o,vs,e,hg,hh,_⟩:=h.map id p cs φ hbd;rw[e,zki]at hb;cases hb;exact⟨hg,(wew.1 hh).1⟩
theorem HRel.grow{P:Program}{W:Env}{H:PHeap}{V:Nat->Value}{w w':World}(h:HRel P W H V w)(hb:Below w.heap.size w w'):HRel P W H V w':=by
 have hsz:=h.below.size;refine⟨h.below.trans (hb.mono hsz),λid t k n cs hbd=>?_,λid t cs hbd=>?_,λid p cs φ hbd=>?_,λi=>(h.ghost i).grow hb,h.apart,λb hz=>Nat.lt_of_lt_of_le (h.zlt b hz) hb.size,h.nz⟩
 ·obtain⟨vals,ho,hr,h1⟩:=h.row id t k n cs hbd;refine⟨vals,?_,hr.mono λp v=>λhh=>hh.grow hb,h1⟩;exact ho.kept (row:=none) ⟨hb.os,hb.tape,hb.output,hb.size,λk hk _=>hb.block k hk⟩ (by cases(V id).ownBlock<;>simp)
 ·obtain⟨g,arr,e,hg,hh,hr,h1⟩:=h.box id t cs hbd;exact⟨g,arr,e,hg,by rw[hb.block g (wew.1 hh).1];exact hh,hr.mono λp v=>λhh=>hh.grow hb,h1⟩
 ·obtain⟨g,o,vs,e,hg,hh,he,hr⟩:=h.map id p cs φ hbd;exact⟨g,o,vs,e,hg,by rw[hb.block g (wew.1 hh).1];exact hh,he,hr.mono λp v=>λhh=>hh.grow hb⟩
structure Rel(P:Program)(W:Env)(n:Nat)(F:PFrame)(H:PHeap)(V:Nat->Value)(a:Act)(w:World):Prop where
 heap:HRel P W H V w
 size:a.tmps.size=n
 defers:a.defers=[]
 slot:∀t,Rp W.Z H V w (F t) (a.tmps.getD t undef)
def ofV:Value->PV
 |.agg vs => .agg (vs.toList.map .u)
 |v => .u v
def evP(F:PFrame):Operand->PV
 |.tmp t=>F t
 |.const v=>ofV v
 |.global _ => .unk
 |.func f => .fn (.func f) [] []
theorem Rp.ofV (Z : ZM) (H : PHeap) (V : Nat → Value) (w : World) (v : Value) : Rp Z H V w (ofV v) v := by
  cases v <;> first
    | exact .u _
    | (refine .agg _ _ (by simp) fun i p v h1 h2 => ?_
       simp only [web, wee] at h1
       obtain ⟨q, hq, rfl⟩ := h1
       rw [Array.getElem?_toList, h2] at hq
       cases hq
       exact .u _)
theorem Rp.eval{P:Program}{Z:ZM}{H:PHeap}{V:Nat->Value}{w:World}{F:PFrame}{a:Act}(x:Operand)(h:∀t,x=.tmp t->Rp Z H V w (F t) (a.tmps.getD t undef)):Rp Z H V w (evP F x) (a.eval x):=by
 cases x with
 |tmp t=>exact h t rfl
 |const v=>exact Rp.ofV Z H V w v
 |global g=>exact .unk _
 |func f=>exact .fn _ [] [] #[] #[] rfl rfl (λi p v h=>by simp at h) (λi p v h=>by simp at h)
theorem Rel.put{P:Program}{W:Env}{n:Nat}{F:PFrame}{H:PHeap}{V:Nat->Value}{a:Act}{w w':World}(h:Rel P W n F H V a w)(hb:Below w.heap.size w w')(d:Option Nat)(hd:∀t,d=some t->t<n){p:PV}{v:Value}(hp:Rp W.Z H V w' p v):Rel P W n (F.put d p) H V (a.put d v) w':=by
 refine⟨h.heap.grow hb,?_,?_,λt=>?_⟩
 ·cases d<;>simp[Act.put,h.size]
 ·cases d<;>simp[Act.put,h.defers]
 ·cases d with
  |none=>simpa [Act.put,PFrame.put]using(h.slot t).grow hb
  |some d=>
   by_cases e:d=t
   ·subst e;have:=hd d rfl;simpa [Act.put,PFrame.put,h.size,this]using hp
   ·have e2:¬(some d=some t):=by simpa using e
    simp only[PFrame.put,if_neg e2];have:=(h.slot t).grow hb;simpa [Act.put,wgk e]using this
section
variable{P:Program}{W:Env}{n:Nat}{ops:Array Oper}{md:Region.Mode}{H:PHeap}
def PQ(P:Program)(W:Env)(o:Oper)(F:PFrame)(H:PHeap)(p:PV):Prop:=
 ∀(V:Nat->Value)(a:Act)(w:World),HRel P W H V w->(∀t,Operand.tmp t∈o.op.operands->Rp W.Z H V w (F t) (a.tmps.getD t undef)) ->
  o.wp P a w (λa' w'=>∃v,a'=a.put o.dst v/\Rp W.Z H V w' p v/\Below w.heap.size w w') (λ_ _ _=>False)
def qb(ops:Array Oper)(o:Oper)(F:PFrame):Option Bool:=
 match o.guard with
 |none=>some true
 |some (j,want)=>
  match (ops[j]?).bind (·.dst)with
  |none=>none
  |some d=>
   match F d with
   |.u (.bool b)=>some (b == want)
   |.u (.tuple _)=>some false
   |_=>none
theorem y4{o:Oper}{F:PFrame}{V:Nat->Value}{a:Act}{w:World}{b:Bool}(h:qb ops o F=some b)(hs:∀t,Rp W.Z H V w (F t) (a.tmps.getD t undef)):Region.wanted o (yielded ops a.tmps)=b:=by
 unfold qb at h;unfold Region.wanted;cases hg:o.guard with
 |none=>rw[hg]at h;simpa using h
 |some gw=>
  obtain⟨j,want⟩:=gw;rw[hg]at h;simp only at h⊢;cases hd:(ops[j]?).bind (·.dst)with
  |none=>rw[hd]at h;cases h
  |some d=>
   rw[hd]at h;simp only at h;have hsd:=hs d;have hy:yielded ops a.tmps j=match a.tmps[d]? with|some (.bool b)=>some b|_=>none:=by
    unfold yielded;rw[hd];rfl
   split at h
   ·rename_i b' hF;rw[hF]at hsd;have:a.tmps.getD d undef=.bool b':=by generalize a.tmps.getD d undef=q at hsd;cases hsd;rfl
    have h2:a.tmps[d]?=some (.bool b'):=by
     rw[we3]at this;cases hq:a.tmps[d]? with
     |none=>rw[hq]at this;simp[undef]at this
     |some q=>rw[hq]at this;simpa using this
    rw[hy,h2];simpa using h
   ·rename_i vs hF;rw[hF]at hsd;have:a.tmps.getD d undef=.tuple vs:=by generalize a.tmps.getD d undef=q at hsd;cases hsd;rfl
    have h2:yielded ops a.tmps j=none:=by
     rw[hy];rw[we3]at this;cases hq:a.tmps[d]? with
     |none=>rfl
     |some q=>rw[hq]at this;simp at this;subst this;rfl
    rw[h2];simpa using h
   ·cases h
def jo(n:Nat)(o:Oper):Prop:=∀t,o.dst=some t->t<n
def Qf(P:Program)(W:Env)(n:Nat)(ops:Array Oper)(H:PHeap)(Q:PFrame->Prop):List Oper->PFrame->Prop
 |[],F=>Q F
 |o::rest,F=>jo n o/\((qb ops o F=some true/\∃p,PQ P W o F H p/\Qf P W n ops H Q rest (F.put o.dst p))\/(qb ops o F=some false/\Qf P W n ops H Q rest (F.put o.dst (.u undef))))
def zfz(P:Program)(W:Env)(n:Nat)(ops:Array Oper)(H:PHeap)(i:Nat)(K:PFrame->Prop)(F:PFrame):Prop:=
 match ops[i]? with
 |none=>K F
 |some o=>jo n o/\((qb ops o F=some true/\∃p,PQ P W o F H p/\K (F.put o.dst p))\/(qb ops o F=some false/\K (F.put o.dst (.u undef))))
theorem zu4{i:Nat}{F:PFrame}{K K':PFrame->Prop}(h:∀F,K F->K' F)(hh:zfz P W n ops H i K F):zfz P W n ops H i K' F:=by
 unfold zfz at *;split
 ·rename_i ho;simp only[ho]at hh;exact h _ hh
 ·rename_i o ho;simp only[ho]at hh;obtain⟨hd,⟨hw,p,hp,hk⟩|⟨hw,hk⟩⟩:=hh
  ·exact⟨hd,.inl ⟨hw,p,hp,h _ hk⟩⟩
  ·exact⟨hd,.inr ⟨hw,h _ hk⟩⟩
def YieldsF(P:Program)(W:Env)(n:Nat)(ops:Array Oper)(H:PHeap)(o:Oper)(p:PV)(F:PFrame):Prop:=
 jo n o/\((qb ops o F=some true/\PQ P W o F H p)\/(qb ops o F=some false/\p=.u undef))
theorem YieldsF.qOp{i:Nat}{o:Oper}{p:PV}{F:PFrame}(hi:ops[i]?=some o)(hy:YieldsF P W n ops H o p F){K:PFrame->Prop}(h:K (F.put o.dst p)):zfz P W n ops H i K F:=by
 unfold zfz;simp only[hi];obtain⟨hd,⟨hw,hp⟩|⟨hw,rfl⟩⟩:=hy
 ·exact⟨hd,.inl ⟨hw,p,hp,h⟩⟩
 ·exact⟨hd,.inr ⟨hw,h⟩⟩
theorem zgz{i:Nat}{o:Oper}{F:PFrame}{K:PFrame->Prop}(hi:ops[i]?=some o)(h:zfz P W n ops H i K F):∃p,YieldsF P W n ops H o p F/\K (F.put o.dst p):=by
 unfold zfz at h;simp only[hi]at h;obtain⟨hd,⟨hw,p,hp,hk⟩|⟨hw,hk⟩⟩:=h
 ·exact⟨p,⟨hd,.inl ⟨hw,hp⟩⟩,hk⟩
 ·exact⟨_,⟨hd,.inr ⟨hw,rfl⟩⟩,hk⟩
theorem wax{F:PFrame}{d:Option Nat}{p:PV}{t:Nat}(h:d≠some t):F.put d p t=F t:=by simp[PFrame.put,h]
theorem zz9{o:Oper}{t:Nat}(h:Operand.tmp t∈o.op.operands):t∈o.looksAt ops:=
 wgr _ (List.mem_filterMap.2 ⟨.tmp t,by simpa using h,rfl⟩)
theorem zwu{o:Oper}{F:PFrame}{d:Option Nat}{q p:PV}(h:∀t,d=some t->t∉o.looksAt ops):PQ P W o (F.put d q) H p↔PQ P W o F H p:=by
 have e:∀t,Operand.tmp t∈o.op.operands->F.put d q t=F t:=λt ht=>wax λhd=>h t hd (zz9 ht);constructor
 ·intro hp V a w hr hs;exact hp V a w hr λt ht=>by rw[e t ht];exact hs t ht
 ·intro hp V a w hr hs;exact hp V a w hr λt ht=>by rw[<- e t ht];exact hs t ht
theorem zc8{o:Oper}{F:PFrame}{d:Option Nat}{q:PV}(h:∀t,d=some t->t∉o.looksAt ops):qb ops o (F.put d q)=qb ops o F:=by
 unfold qb;cases hg:o.guard with
 |none=>rfl
 |some gw=>
  obtain⟨j,want⟩:=gw;simp only;cases hd:(ops[j]?).bind (·.dst)with
  |none=>rfl
  |some t=>
   have:F.put d q t=F t:=wax λe=>h t e (by simp[Oper.looksAt,hg,hd]);simp only[this]
theorem YieldsF.put{o:Oper}{p:PV}{F:PFrame}{d:Option Nat}{q:PV}(hy:YieldsF P W n ops H o p F)(h:∀t,d=some t->t∉o.looksAt ops):YieldsF P W n ops H o p (F.put d q):=by
 obtain⟨hd,hh⟩:=hy;refine⟨hd,?_⟩;rw[zc8 h,zwu h];exact hh
theorem wa0(F:PFrame){x y:Option Nat}(p q:PV)(h:∀d,x=some d->y≠some d):(F.put x p).put y q=(F.put y q).put x p:=by
 funext t;simp only[PFrame.put];by_cases h1:x=some t
 ·by_cases h2:y=some t
  ·exact absurd h2 (h t h1)
  ·simp[h1,h2]
 ·by_cases h2:y=some t<;>simp[h1,h2]
theorem z02{j:Nat}{oi oj:Oper}{p:PV}(hj:ops[j]?=some oj)(hap:oi.apart ops oj=true){K:PFrame->Prop}{F:PFrame}
  (hy:YieldsF P W n ops H oi p F) (h:zfz P W n ops H j K (F.put oi.dst p)) :
  zfz P W n ops H j (λF'=>YieldsF P W n ops H oi p F'/\K (F'.put oi.dst p)) F:=by
 obtain⟨h1,h2,h3⟩:=Oper.apart_spec hap;unfold zfz at *;simp only[hj]at *;rw[zc8 h1]at h;obtain⟨hd,⟨hw,q,hq,hk⟩|⟨hw,hk⟩⟩:=h
 ·exact⟨hd,.inl ⟨hw,q,(zwu h1).1 hq,hy.put h3,by rw[<- wa0 F p q h2];exact hk⟩⟩
 ·exact⟨hd,.inr ⟨hw,hy.put h3,by rw[<- wa0 F p _ h2];exact hk⟩⟩
def zqn(P:Program)(W:Env)(n:Nat)(md:Region.Mode)(ops:Array Oper)(H:PHeap)(Q:PFrame->Prop):Nat->Array Bool->PFrame->Prop
 |0,listed,F=>Region.ready md ops listed=[]/\Q F
 |fuel+1,listed,F=>
  (Region.ready md ops listed=[]->Q F) /\
  ∀i∈Region.ready md ops listed,zfz P W n ops H i (zqn P W n md ops H Q fuel (listed.setIfInBounds i true)) F
theorem zkr{i:Nat}{F:PFrame}{V:Nat->Value}{a:Act}{w:World}{K:PFrame->Prop}{K':Act->World->Prop}{Q':Exit->Act->World->Prop}(hr:Rel P W n F H V a w)
  (h:∀F a w,Rel P W n F H V a w->K F->K' a w) (hh:zfz P W n ops H i K F):wpOp P ops Q' i K' a w:=by
 unfold zfz at hh;unfold wpOp;split
 ·rename_i ho;simp only[ho]at hh;exact h _ _ _ hr hh
 ·rename_i o ho;simp only[ho]at hh;obtain⟨hd,⟨hw,p,hp,hk⟩|⟨hw,hk⟩⟩:=hh
  ·rw[y4 hw hr.slot];simp only[if_true];refine .inl ?_;have h1:=hp V a w hr.heap (λt _=>hr.slot t);unfold Oper.wp at *;generalize (execOp a.eval o).run P w=r at *;have key:∀a' w',(∃v,a'=a.put o.dst v/\Rp W.Z H V w' p v/\Below w.heap.size w w')->K' a' w':=by
    rintro a' w' ⟨v,rfl,hv,hb⟩;exact h _ _ _ (hr.put hb o.dst hd hv) hk
   cases r with
   |ok nx w'=>
    cases nx<;>simp only[Oper.upon]at h1⊢
    case value u=>exact key _ _ h1
    case skip=>exact key _ _ h1
    case defer d=>exact key _ _ h1
    case enter f args=>
     refine h1.mono λe w'' he=>?_;cases e with
     |returned v=>exact key _ _ he
     |panicked c=>exact he.elim
     |outgrown=>obtain⟨_,_,hf⟩:=he;exact hf.elim
    case row row args=>
     exact h1.mono λv w'' he=>key _ _ he
   |halt x w'=>
    cases x<;>simp only[Oper.upon]at h1
  ·rw[y4 hw hr.slot];simp only[we4,if_false];exact h _ _ _ (hr.put (Below.refl _ _) o.dst hd (.u _)) hk
theorem zp5{V:Nat->Value}{Q:PFrame->Prop}{Q':Exit->Act->World->Prop}(hQ:∀F a w,Rel P W n F H V a w->Q F->Q' .normal a w):∀(fuel:Nat)(listed:Array Bool)(F:PFrame)(a:Act)(w:World),Rel P W n F H V a w ->
  zqn P W n md ops H Q fuel listed F->wpAny P md ops Q' fuel listed a w
 |0,_,_,_,_,hr,h=>⟨h.1,hQ _ _ _ hr h.2⟩
 |fuel+1,_,_,_,_,hr,h=>⟨λh0=>hQ _ _ _ hr (h.1 h0),λi hi=>zkr hr (λF' a' w' hr' hk=>zp5 hQ fuel _ F' a' w' hr' hk) (h.2 i hi)⟩
theorem zw0{Q:PFrame->Prop}{i:Nat}{oi:Oper}{p:PV}(hi:ops[i]?=some oi):
  ∀(fuel:Nat)(listed:Array Bool)(F:PFrame),
   (∀j oj,ops[j]?=some oj->j≠i->listed.getD j true=false->(∀e∈oj.after,Region.binds md e=true->e.on≠i)->oi.apart ops oj=true) ->
   i∈Region.ready md ops listed->YieldsF P W n ops H oi p F ->
   zqn P W n md ops H Q fuel (listed.setIfInBounds i true) (F.put oi.dst p)->zqn P W n md ops H Q (fuel+1) listed F:=by
 intro fuel;induction fuel with
 |zero=>
  intro listed F _ hr hy Hh;refine⟨λh=>(by rw[h]at hr;cases hr),λj hj=>?_⟩;by_cases hji:j=i
  ·subst hji;exact hy.qOp hi Hh
  ·have:=ready_mono hj hji;rw[Hh.1]at this;cases this
 |succ fuel ih=>
  intro listed F hfree hr hy Hh;refine⟨λh=>(by rw[h]at hr;cases hr),λj hj=>?_⟩;by_cases hji:j=i
  ·subst hji;exact hy.qOp hi Hh
  ·have h1:=Hh.2 j (ready_mono hj hji);obtain⟨hjun,oj,hoj,hall⟩:=mem_ready.1 hj;have hnot:∀e∈oj.after,Region.binds md e=true->e.on≠i:=λe he hb heq=>by
    have h1:=hall e he hb;have h0:=(mem_ready.1 hr).1;rw[heq]at h1;rcases wg9 i listed.size with h'|h'
    ·simp[h']at h0 h1;rw[h0]at h1;cases h1
    ·simp[Array.getElem?_eq_none h']at h1
   have h2:=z02 hoj (hfree j oj hoj hji hjun hnot) hy h1;have hfree':∀k ok,ops[k]?=some ok->k≠i->(listed.setIfInBounds j true).getD k true=false ->
     (∀e∈ok.after,Region.binds md e=true->e.on≠i)->oi.apart ops ok=true:=λk ok hk hki hun hno=>by
    refine hfree k ok hk hki ?_ hno;by_cases hjk:j=k
    ·subst hjk;exact hjun
    ·rw[getD_set_ne true hjk]at hun;exact hun
   refine zu4 (λF' h3=>ih (listed.setIfInBounds j true) F' hfree' (ready_mono hr (Ne.symm hji)) h3.1 ?_) h2;rw[wgv _ _ hji];exact h3.2
theorem zq0{Q:PFrame->Prop}:∀(l:List Oper)(k:Nat)(listed:Array Bool)(F:PFrame),(∀j,l[j]?=ops[k+j]?) ->
  Region.lexFrom md ops l.length k listed=true->Qf P W n ops H Q l F->zqn P W n md ops H Q l.length listed F
 |[],_,_,_,_,hB,h=>⟨by simpa [Region.lexFrom]using hB,h⟩
 |o::l,k,listed,F,hl,hB,h=>by
  have h0:ops[k]?=some o:=by simpa using(hl 0).symm
  simp only[we2,Region.lexFrom,wd8]at hB;obtain⟨⟨hr,hf⟩,hB'⟩:=hB;have hst:zfz P W n ops H k (Qf P W n ops H Q l) F:=by unfold zfz;simp only[h0];exact h
  obtain⟨v,hy,hK⟩:=zgz h0 hst;exact zw0 h0 l.length listed F (Region.free_spec h0 hf) (by simpa using hr) hy
   (zq0 l (k+1) _ _ (λj=>by have:=hl (j+1);simpa [wgj,wf9 1 j]using this) hB' hK)
theorem Rel.drawn{F:PFrame}{V:Nat->Value}{a:Act}{w:World}(h:Rel P W n F H V a w):Rel P W n F H V a { w with drawn:=w.drawn+1 }:=by
 have hb:Below w.heap.size w { w with drawn:=w.drawn+1 }:=⟨rfl,rfl,rfl,weh _,λ_ _=>rfl⟩
 exact⟨h.heap.grow hb,h.size,h.defers,λt=>(h.slot t).grow hb⟩
theorem zxz{id:Nat}{Q:Exit->Act->World->Prop}{F:PFrame}{V:Nat->Value}{a:Act}{w:World}{l:List Oper}(hr:Rel P W n F H V a w)(hm:P.follows .mixedOrders=true)(hB:Region.lexB .any l.toArray=true)
  (h:Qf P W n l.toArray H (λF'=>∀a' w',Rel P W n F' H V a' w'->Q .normal a' w') l F):(Code.region id l.toArray true).wp P Q a w:=by
 simp only[Region.lexB,wd8]at hB;refine wp_region_any hm (zp5 (Q:=λF'=>∀a' w',Rel P W n F' H V a' w'->Q .normal a' w') (λ_ _ _ hr' h=>h _ _ hr') _ _ F _ _ hr.drawn ?_);have:=zq0 (P:=P) (W:=W) (n:=n) (H:=H) (md :=.any) (ops:=l.toArray) l 0 (Array.replicate l.toArray.size false) F (by simp) (by simpa using hB.2) h;simpa using this
def zjf(P:Program)(W:Env)(n:Nat)(md:Region.Mode)(ops:Array Oper)(H:PHeap)(m:Nat)(L:Array Bool->PFrame->Prop):Nat->Array Bool->PFrame->Prop
 |0,listed,F=>L listed F
 |f+1,listed,F=>
  Region.ready md ops listed≠[]/\∀i∈Region.ready md ops listed,i<m/\zfz P W n ops H i (zjf P W n md ops H m L f (listed.setIfInBounds i true)) F
theorem zf6{m g:Nat}{V:Nat->Value}{L:Array Bool->PFrame->Prop}{Q':Exit->Act->World->Prop}(hL:∀listed F a w,Rel P W n F H V a w->L listed F->wpAny P md ops Q' g listed a w):
  ∀(f:Nat)(listed:Array Bool)(F:PFrame)(a:Act)(w:World),Rel P W n F H V a w->zjf P W n md ops H m L f listed F->wpAny P md ops Q' (f+g) listed a w
 |0,listed,F,a,w,hr,h=>by rw[wfa];exact hL _ _ _ _ hr h
 |f+1,listed,F,a,w,hr,h=>by
  rw[show f+1+g=(f+g)+1 by omega];exact⟨λh0=>absurd h0 h.1,λi hi=>zkr hr (λF' a' w' hr' h'=>zf6 hL f _ F' a' w' hr' h') (h.2 i hi).2⟩
theorem zt4{m i:Nat}{oi:Oper}{p:PV}{L:Array Bool->PFrame->Prop}(hi:ops[i]?=some oi)
  (hs:Region.sinkB md ops m=true) (hc:Region.chainB md ops m=true) (hn:m<ops.size) (hin:i<m)
  (hdone:∀listed F,L listed F->∀j∈Region.ready md ops listed,m<=j) :
  ∀(f:Nat)(listed:Array Bool)(F:PFrame),HeadInv md ops m listed ->
   (∀j oj,ops[j]?=some oj->j≠i->listed.getD j true=false->(∀e∈oj.after,Region.binds md e=true->e.on≠i)->oi.apart ops oj=true) ->
   i∈Region.ready md ops listed->YieldsF P W n ops H oi p F ->
   zjf P W n md ops H m L f (listed.setIfInBounds i true) (F.put oi.dst p)->zjf P W n md ops H m L (f+1) listed F:=by
 intro f;induction f with
 |zero=>
  intro listed F inv _ hr hy Hh;have hun:=(mem_ready.1 hr).1;refine⟨λh=>(by rw[h]at hr;cases hr),λj hj=>?_⟩;have hjn:j<m:=by
   rcases wg9 j m with h|h
   ·exact h
   ·exact absurd hj (tail_waits hs hc hn inv _ i rfl hin hun j h)
  refine⟨hjn,?_⟩;by_cases hji:j=i
  ·subst hji;exact hy.qOp hi Hh
  ·have:=hdone _ _ Hh j (ready_mono hj hji);omega
 |succ f ih=>
  intro listed F inv hfree hr hy Hh;have hun:=(mem_ready.1 hr).1;refine⟨λh=>(by rw[h]at hr;cases hr),λj hj=>?_⟩;have hjn:j<m:=by
   rcases wg9 j m with h|h
   ·exact h
   ·exact absurd hj (tail_waits hs hc hn inv _ i rfl hin hun j h)
  refine⟨hjn,?_⟩;by_cases hji:j=i
  ·subst hji;exact hy.qOp hi Hh
  ·have h1:=(Hh.2 j (ready_mono hj hji)).2;obtain⟨hjun,oj,hoj,hall⟩:=mem_ready.1 hj;have hnot:∀e∈oj.after,Region.binds md e=true->e.on≠i:=λe he hb heq=>by
    have h1:=hall e he hb;rw[heq,getD_both hun]at h1;cases h1
   have h2:=z02 hoj (hfree j oj hoj hji hjun hnot) hy h1;have hfree':∀k ok,ops[k]?=some ok->k≠i->(listed.setIfInBounds j true).getD k true=false ->
     (∀e∈ok.after,Region.binds md e=true->e.on≠i)->oi.apart ops ok=true:=λk ok hk hki hun hno=>by
    refine hfree k ok hk hki ?_ hno;by_cases hjk:j=k
    ·subst hjk;exact hjun
    ·rw[getD_set_ne true hjk]at hun;exact hun
   refine zu4 (λF' h3=>ih (listed.setIfInBounds j true) F' (inv.set hj hjn) hfree' (ready_mono hr (Ne.symm hji)) h3.1 ?_) h2;rw[wgv _ _ hji];exact h3.2
theorem znd{m g:Nat}{Lq:PFrame->Prop}(hs:Region.sinkB md ops m=true)(hc:Region.chainB md ops m=true)(hn:m<ops.size):
  ∀(l:List Oper)(k:Nat)(listed:Array Bool)(F:PFrame),(∀j,j<l.length->l[j]?=ops[k+j]?)->k+l.length=m->HeadInv md ops m listed ->
   Region.lexHead md ops g l.length k listed=true->Qf P W n ops H Lq l F ->
   zjf P W n md ops H m (λlisted F=>Region.seqB md ops g m listed=true/\Lq F) l.length listed F
 |[],k,listed,F,_,hk,_,hB,h=>by
  simp only[wgp,wfu]at hk;subst hk;exact⟨by simpa [Region.lexHead]using hB,h⟩
 |o::l,k,listed,F,hl,hk,inv,hB,h=>by
  have h0:ops[k]?=some o:=by simpa using(hl 0 (by simp)).symm
  simp only[we2,Region.lexHead,wd8]at hB;obtain⟨⟨hr,hf⟩,hB'⟩:=hB;have hr':k∈Region.ready md ops listed:=by simpa using hr
  have hkn:k<m:=by simp only[we2]at hk;omega
  have hst:zfz P W n ops H k (Qf P W n ops H Lq l) F:=by unfold zfz;simp only[h0];exact h
  obtain⟨v,hy,hK⟩:=zgz h0 hst;exact zt4 h0 hs hc hn hkn (λlisted F hL=>seqB_ready hL.1) l.length listed F inv (Region.free_spec h0 hf) hr' hy
   (znd hs hc hn l (k+1) _ _ (λj hj=>by have:=hl (j+1) (by simp;omega);simpa [wgj,wf9 1 j]using this) (by simp only[we2]at hk;omega) (inv.set hr' hkn) hB' hK)
theorem zxt{id:Nat}{Q:Exit->Act->World->Prop}{F:PFrame}{V:Nat->Value}{a:Act}{w:World}{l:List Oper}(m:Nat)(hr:Rel P W n F H V a w)(hm:P.follows .mixedOrders=true)(hB:Region.lexTailB .any l.toArray m=true)
  (h:Qf P W n l.toArray H (λF'=>∀a' w',Rel P W n F' H V a' w'->wpList P l.toArray Q (l.drop m) a' w') (l.take m) F):(Code.region id l.toArray true).wp P Q a w:=by
 simp only[Region.lexTailB,wd8,wed]at hB;obtain⟨⟨⟨⟨_,hn⟩,hs⟩,hc⟩,hlex⟩:=hB;have hn':m<l.length:=by simpa using hn
 have htl:(l.take m).length=m:=by simp;omega
 have hdl:(l.drop m).length=l.toArray.size-m:=by simp
 have inv0:HeadInv .any l.toArray m (Array.replicate l.toArray.size false):=
  ⟨by simp,λj oj _ hl=>(by rw[getD_replicate_false]at hl;cases hl),λt _ ht=>getD_in (by simpa using ht) (getD_replicate_false _ _)⟩
 have Hh:=znd (P:=P) (W:=W) (n:=n) (H:=H) (md :=.any) (g:=l.toArray.size-m) hs hc hn (l.take m) 0 _ F (λj hj=>by
  have hj':j<m:=by rw[htl]at hj;exact hj
  simp[hj']) (by simpa using htl) inv0 (by rw[htl];exact hlex) h
 refine wp_region_any hm ?_;have:=zf6 (Q':=Q) (g:=l.toArray.size-m) (V:=V) (λlisted F' a' w' hr' hL=>by
  have:=wpAny_of_seq (md :=.any) (Q':=Q) (l.drop m) m listed a' w' (λj=>by simp[we5]) (by rw[hdl];exact hL.1) (hL.2 a' w' hr');rwa [hdl]at this) _ _ F _ _ hr.drawn Hh
 rw[htl]at this;rwa [show m+(l.toArray.size-m)=l.toArray.size by omega]at this
end
def _root_.Go.Sem.val{α:Type}(P:Program):Sem α->Option α
 |.pure a=>some a
 |.program k=>(k P).val P
 |.mark _ k=>k.val P
 |_=>none
theorem zbo{α:Type}{P:Program}{s:Sem α}{a:α}(h:s.val P=some a)(w:World):s.run P w=.ok a w:=by
 induction s with
 |pure b=>simp only[Sem.val,we6]at h;subst h;rfl
 |program k ih=>simp only[Sem.val]at h;simp only[Sem.run];exact ih P h
 |mark m k ih=>simp only[Sem.val]at h;simp only[Sem.run];exact ih h
 |_=>simp[Sem.val]at h
theorem qi{α β:Type}{P:Program}(s:Sem α)(f:α->Sem β):(s >>= f).val P=(s.val P).bind λa=>(f a).val P:=by
 show(s.bind f).val P=_;induction s with
 |pure b=>rfl
 |program k ih=>simp only[Sem.bind,Sem.val];exact ih P
 |mark m k ih=>simp only[Sem.bind,Sem.val];exact ih
 |_=>simp[Sem.bind,Sem.val]
theorem zpc{α β:Type}{P:Program}(s:Sem α)(f:α->β):(f <$> s).val P=(s.val P).map f:=by
 rw[<- bind_pure_comp,qi];cases s.val P<;>rfl
theorem qk{α:Type}{P:Program}(a:α):(Pure.pure a:Sem α).val P=some a:=rfl
def esz(P:Program)(t:TypeId):Option Nat:=match P.underlying t with|some (.slice e)=>(P.info? e).map (·.size)|_=>none
def arr(P:Program)(t:TypeId):Option (Nat×Nat):=match P.underlying t with|some (.array n e)=>(P.info? e).map λi=>(n,i.size)|_=>none
def zmh:TypeDesc->Bool|.struct _|.array _ _=>true|_=>false
def asz(P:Program)(t:TypeId):Option (Bool×Nat):=match P.underlying t with|some d=>(P.info? t).map λi=>(zmh d,i.size)|none=>none
def fof(P:Program)(s:TypeId)(f:Nat):Option (Nat×TypeId):=match P.underlying s with|some (.struct fs)=>(fs[f]?).map λx=>(x.offset,x.type)|_=>none
def ja8(P:Program)(t:TypeId):Option TypeId:=match P.underlying t with|some (.array _ e)=>some e|_=>none
theorem zuo{P:Program}{t:TypeId}{d:TypeDesc}(h:P.underlying t=some d)(w:World):(isAgg t).run P w=.ok (zmh d) w:=by
 unfold isAgg;rw[Sem.run_bind,run_underlying h w];cases d<;>simp[zmh]
theorem zgx{P:Program}{t:TypeId}{g:Bool}{k:Nat}(h:asz P t=some (g,k))(w:World):(isAgg t).run P w=.ok g w/\(sizeOf t).run P w=.ok k w:=by
 unfold asz at h;cases hu:P.underlying t with
 |none=>rw[hu]at h;cases h
 |some d=>
  rw[hu]at h;simp only at h;cases hi:P.info? t with
  |none=>rw[hi]at h;cases h
  |some i=>
   rw[hi]at h;simp only[wer,we6,wgx]at h;obtain⟨h1,h2⟩:=h;exact⟨by rw[zuo hu w,h1],by simp[sizeOf,typeInfo,hi,h2]⟩
theorem zac{P:Program}{t:TypeId}{k:Nat}(h:esz P t=some k):∃e i,P.underlying t=some (.slice e)/\P.info? e=some i/\i.size=k:=by
 unfold esz at h;split at h
 ·rename_i e hu;cases hi:P.info? e with
  |none=>rw[hi]at h;cases h
  |some i=>rw[hi]at h;exact⟨e,i,hu,hi,by simpa using h⟩
 ·cases h
theorem zsr{P:Program}{t:TypeId}{n k:Nat}(h:arr P t=some (n,k)):∃e i,P.underlying t=some (.array n e)/\P.info? e=some i/\i.size=k:=by
 unfold arr at h;split at h
 ·rename_i m e hu;cases hi:P.info? e with
  |none=>rw[hi]at h;cases h
  |some i=>
   rw[hi]at h;simp only[wer,we6,wgx]at h;obtain⟨rfl,h2⟩:=h;exact⟨e,i,hu,hi,h2⟩
 ·cases h
section
variable{P:Program}{W:Env}{H:PHeap}{F:PFrame}
theorem wae{o:Oper}{p:PV}(h:∀(V:Nat->Value)(a:Act)(w:World),HRel P W H V w->(∀x∈o.op.operands,Rp W.Z H V w (evP F x) (a.eval x))->∃v,(execOp a.eval o).run P w=.ok (.value v) w/\Rp W.Z H V w p v):PQ P W o F H p:=by
 intro V a w hr hs;obtain⟨v,hv,hp⟩:=h V a w hr λx hx=>Rp.eval (P:=P) x λt ht=>hs t (by rw[<- ht];exact hx);unfold Oper.wp;rw[hv];exact⟨v,rfl,hp,Below.refl _ _⟩
def jl(H:PHeap)(id ver:Nat):Option (List PV):=
 match (H id).body with
 |some (.row _ _ _ cs)=>if(H id).ver=ver then some cs else none
 |some (.box _ cs)=>if(H id).ver=ver then some cs else none
 |_=>none
def qm(H:PHeap)(id ver:Nat):Option (TypeId×Nat×Nat×List PV):=
 match (H id).body with
 |some (.row t k n cs)=>if(H id).ver=ver then some (t,k,n,cs)else none
 |_=>none
theorem vy{id ver:Nat}{t k n cs}(h:qm H id ver=some (t,k,n,cs)):(H id).body=some (.row t k n cs)/\(H id).ver=ver:=by
 unfold qm at h;split at h
 ·rename_i t' k' n' cs' hb;split at h
  ·rename_i hv;cases h;exact⟨hb,hv⟩
  ·cases h
 ·cases h
theorem zh{id ver:Nat}{cs:List PV}(hl:jl H id ver=some cs):(H id).body.isSome=true/\(H id).ver=ver:=by
 unfold jl at hl;split at hl
 ·rename_i hb;split at hl
  ·rename_i hvv;exact⟨by rw[hb];rfl,hvv⟩
  ·cases hl
 ·rename_i hb;split at hl
  ·rename_i hvv;exact⟨by rw[hb];rfl,hvv⟩
  ·cases hl
 ·cases hl
theorem z0d{V:Nat->Value}{w:World}(hr:HRel P W H V w){id ver g:Nat}{cs:List PV}(hl:jl H id ver=some cs)(hg:qc (V id)=some g):
  (H id).body.isSome=true/\(H id).ver=ver/\∀(i:Nat)(p:PV),cs[i]?=some p->∃v,w.cell? ⟨g,i,none⟩=some v/\Rp W.Z H V w p v:=by
 unfold jl at hl;split at hl
 ·rename_i t k n cs' hb;split at hl
  ·rename_i hv;cases hl;refine⟨by rw[hb];rfl,hv,λi p hi=>?_⟩;obtain⟨vals,ho,hR,_⟩:=hr.row id t k n cs hb;have hlt:=(wd5.1 hi).1;have hlv:i<vals.length:=by rw[<- hR.1];exact hlt
   refine⟨vals[i],?_,hR.2 i p _ hi (wd2 hlv)⟩;have hob:(V id).ownBlock=some g:=by
    rcases ho.2 with⟨e,_⟩|⟨g',cap,cur,e,_⟩
    ·rw[e]at hg;cases hg
    ·rw[e]at hg⊢;exact hg
   have:=ho.cells hob i _ (wd2 hlv);have hadd:(⟨g,0,none⟩:Addr).add i=⟨g,i,none⟩:=by unfold Addr.add;split<;>simp_all
   rwa [hadd]at this
  ·cases hl
 ·rename_i t cs' hb;split at hl
  ·rename_i hv;cases hl;refine⟨by rw[hb];rfl,hv,λi p hi=>?_⟩;obtain⟨g',ar,e,_,hh,hR,_⟩:=hr.box id t cs hb;have hgg:g'=g:=by rw[e]at hg;simpa [qc]using hg
   subst hgg;have hlt:=(wd5.1 hi).1;have hlv:i<ar.toList.length:=by rw[<- hR.1];exact hlt
   have hlv':i<ar.size:=by simpa using hlv
   refine⟨ar.toList[i],?_,hR.2 i p _ hi (wd2 hlv)⟩;rw[cell_of_row w g' i ar t (0,0) hh,wet hlv'];simp
  ·cases hl
 ·cases hl
theorem zq(b o n:Nat):(⟨b,o,none⟩:Addr).add n=⟨b,o+n,none⟩:=by unfold Addr.add;split<;>simp_all
def qw(ag:Bool)(k:Nat)(cs:List PV):Option PV:=
 if ag then(if k<=cs.length then some (.agg (cs.take k))else none)else cs[0]?
theorem zuj{V:Nat->Value}{w:World}{t:TypeId}{ag:Bool}{k:Nat}(ht:asz P t=some (ag,k)){cs:List PV}{b o:Nat}(hc:∀(i:Nat)(p:PV),cs[i]?=some p->∃v,w.cell? ⟨b,o+i,none⟩=some v/\Rp W.Z H V w p v){q:PV}(hq:qw ag k cs=some q):
  ∃v,(loadVar t ⟨b,o,none⟩).run P w=.ok v w/\Rp W.Z H V w q v:=by
 obtain⟨h1,h2⟩:=zgx ht w;unfold qw at hq;cases ag with
 |false=>
  simp only[we4,if_false]at hq;obtain⟨v,hv,hp⟩:=hc 0 q hq;refine⟨v,?_,hp⟩;rw[wfu]at hv;unfold loadVar;simp[Sem.run_bind,h1,hv]
 |true=>
  simp only[if_true]at hq;split at hq
  ·rename_i hk;cases hq;have hcell:∀i,i<k->∃v,w.cell? ⟨b,o+i,none⟩=some v/\∀p,cs[i]?=some p->Rp W.Z H V w p v:=λi hi=>by
    obtain⟨v,hv,hp⟩:=hc i cs[i] (wd2 (by omega));exact⟨v,hv,λp hp'=>by rw[wd2 (by omega)]at hp';cases hp';exact hp⟩
   have hf:∃f:Nat->Value,∀i,i<k->w.cell? ⟨b,o+i,none⟩=some (f i)/\∀p,cs[i]?=some p->Rp W.Z H V w p (f i):=by
    refine⟨λi=>((w.cell? ⟨b,o+i,none⟩).getD undef),λi hi=>?_⟩;obtain⟨v,hv,hp⟩:=hcell i hi;simp only[hv,wfd];exact⟨trivial,hp⟩
   obtain⟨f,hf⟩:=hf;have hl:=run_loadCells (P:=P) w ⟨b,o,none⟩ k f (λj hj=>by rw[zq];exact(hf j hj).1);refine⟨.agg ((List.range k).map f).toArray,by unfold loadVar;simp[Sem.run_bind,h1,h2,hl],.agg _ _ (by simp;omega) λi p v h3 h4=>?_⟩;rw[wfm]at h3;split at h3
   ·rename_i hi;have h5:v=f i:=by
     simp[hi]at h4;exact h4.symm
    rw[h5];exact(hf i hi).2 p h3
   ·cases h3
  ·cases hq
def yc(P:Program)(H:PHeap)(t:TypeId)(x:PV):Option PV:=
 match asz P t with
 |none=>none
 |some (ag,k)=>
  match x with
  |.rp cs=>qw ag k cs
  |.pp id off ver=>(jl H id ver).bind λcs=>qw ag k (cs.drop off)
  |_=>none
theorem znh{V:Nat->Value}{w:World}(hr:HRel P W H V w){t:TypeId}{y q:PV}{v:Value}(hx:Rp W.Z H V w y v)(hq:yc P H t y=some q):∃u,(Instr.loadAt t v).run P w=.ok u w/\Rp W.Z H V w q u:=by
 unfold yc at hq;cases ha:asz P t with
 |none=>rw[ha]at hq;cases hq
 |some gk=>
  obtain⟨ag,k⟩:=gk;rw[ha]at hq;simp only at hq;split at hq
  ·rename_i cs;cases hx with
   |rp _ b o g hz hb h1 h2=>
    obtain⟨u,hu,hp⟩:=zuj ha (λi p hi=>⟨g i,h1 i p hi,h2 i p hi⟩) hq;exact⟨u,by simp[Instr.loadAt,Instr.sureAddr,hu],hp⟩
  ·rename_i id off ver;cases hl:jl H id ver with
   |none=>rw[hl]at hq;cases hq
   |some cs=>
    rw[hl]at hq;simp only[wfp]at hq;cases hx with
    |pp _ _ _ _ hv h=>
     have hlive:=zh hl;obtain⟨g,hg,rfl⟩:=h hlive.1 hlive.2;obtain⟨_,_,hc⟩:=z0d hr hl hg;obtain⟨u,hu,hp⟩:=zuj (P:=P) (W:=W) (H:=H) (V:=V) (w:=w) (b:=g) (o:=off) ha (cs:=cs.drop off) (λi p hi=>by
      rw[we5]at hi;exact hc _ p hi) hq
     exact⟨u,by simp[Instr.loadAt,Instr.sureAddr,hu],hp⟩
  ·cases hq
def fieldAddrP(P:Program)(H:PHeap)(s:TypeId)(f:Nat)(x:PV):Option PV:=
 match fof P s f with
 |none=>none
 |some (off,t)=>
  match asz P t with
  |some (_,k)=>if k=0 then none else
   match x with
   |.rp cs=>some (.rp (cs.drop off))
   |.pp id o ver=>(jl H id ver).map λ_=> .pp id (o+off) ver
   |_=>none
  |none=>none
theorem zyo{s:TypeId}{f off:Nat}{t:TypeId}(h:fof P s f=some (off,t)):∃fs x,P.underlying s=some (.struct fs)/\fs[f]?=some x/\x.offset=off/\x.type=t:=by
 unfold fof at h;split at h
 ·rename_i fs hu;cases hx:fs[f]? with
  |none=>rw[hx]at h;cases h
  |some x=>
   rw[hx]at h;simp only[wer,we6,wgx]at h;exact⟨fs,x,hu,hx,h.1,h.2⟩
 ·cases h
theorem wb1{V:Nat->Value}{w:World}{cs:List PV}{b o:Nat}(h:Rp W.Z H V w (.rp cs) (.pointer (some ⟨b,o,none⟩)))(d:Nat):Rp W.Z H V w (.rp (cs.drop d)) (.pointer (some ⟨b,o+d,none⟩)):=by
 cases h with
 |rp _ _ _ g hz hb h1 h2=>
  exact .rp _ b (o+d) (λi=>g (d+i)) hz hb (λi p hi=>by rw[we5]at hi;rw[wgj];exact h1 _ p hi) (λi p hi=>by rw[we5]at hi;exact h2 _ p hi)
theorem zqy{V:Nat->Value}{w:World}{s:TypeId}{f:Nat}{y q:PV}{v:Value}(hx:Rp W.Z H V w y v)(hq:fieldAddrP P H s f y=some q):
  ∃u,(Instr.fieldAt s v f).run P w=.ok u w/\Rp W.Z H V w q u:=by
 unfold fieldAddrP at hq;cases hf:fof P s f with
 |none=>rw[hf]at hq;cases hq
 |some ot=>
  obtain⟨off,t⟩:=ot;rw[hf]at hq;simp only at hq;obtain⟨fs,fx,hu,hfx,rfl,rfl⟩:=zyo hf;cases ha:asz P fx.type with
  |none=>rw[ha]at hq;cases hq
  |some gk=>
   obtain⟨ag,k⟩:=gk;rw[ha]at hq;simp only at hq;split at hq
   ·cases hq
   ·rename_i hk;have hsz:=(zgx ha w).2;have hrun:∀b o,(Instr.fieldAt s (.pointer (some ⟨b,o,none⟩)) f).run P w=.ok (.pointer (some ⟨b,o+fx.offset,none⟩)) w:=λb o=>by
     simp[Instr.fieldAt,run_underlying hu,hfx,Instr.sureAddr,fieldPlace,hsz,hk,zq]
    split at hq
    ·rename_i cs;cases hq;cases hx with
     |rp _ b o g hz hb h1 h2=>exact⟨_,hrun b o,wb1 (.rp cs b o g hz hb h1 h2) _⟩
    ·rename_i id o ver;cases hl:jl H id ver with
     |none=>rw[hl]at hq;cases hq
     |some cs=>
      rw[hl]at hq;cases hq;obtain⟨h1,h2⟩:=zh hl;cases hx with
      |pp _ _ _ _ hv' h=>
       obtain⟨g,hg,rfl⟩:=h h1 h2;exact⟨_,hrun g o,.pp _ _ _ _ hv' λ_ _=>⟨g,hg,rfl⟩⟩
    ·cases hq
end
section
variable{P:Program}{W:Env}{H:PHeap}{F:PFrame}
def zjp(H:PHeap)(id ver:Nat):Bool:=match (H id).body with
 |some (.raw _ _ _)=>Nat.beq (H id).ver ver
 |_=>false
theorem zxq{H:PHeap}{id ver:Nat}(h:zjp H id ver=true):(∃p cs φ,(H id).body=some (.raw p cs φ))/\(H id).ver=ver:=by
 unfold zjp at h;split at h
 ·rename_i p cs φ hb;exact⟨⟨p,cs,φ,hb⟩,wd9 h⟩
 ·cases h
def qh(H:PHeap):PV->Bool
 |.u v=>v.oneCell'
 |.sl _ _|.fr _ _ _|.rp _|.fn _ _ _=>true
 |.ps id ver=>(qm H id ver).isSome ||zjp H id ver
 |.qs id _ _ ver=>(qm H id ver).isSome
 |.pp id _ ver=>(jl H id ver).isSome
 |_=>false
def okC(H:PHeap):PV->Bool
 |.agg cs=>cs.all (qh H)
 |p=>qh H p
theorem Rp.leaf{V:Nat->Value}{w:World}(hr:HRel P W H V w){p:PV}{v:Value}(h:Rp W.Z H V w p v)(hp:qh H p=true):v.oneCell'=true:=by
 cases h with
 |u v=>exact hp
 |nil k a c=>rfl
 |sl=>rfl
 |fr t k xs v vals hu ho=>rcases ho.2 with⟨e,_⟩|⟨g,cap,cur,e,_⟩<;>rw[e]<;>rfl
 |rp=>rfl
 |fn=>rfl
 |ps id ver v hv h=>
  simp only[qh]at hp;cases hl:qm H id ver with
  |none=>
   rw[hl]at hp;obtain⟨⟨p,cs,φ,hb⟩,hve⟩:=zxq (by simpa using hp);rw[h (by rw[hb];rfl) hve];obtain⟨g,o,vs,e,_⟩:=hr.map id p cs φ hb;rw[e];cases p<;>rfl
  |some q=>
   obtain⟨t,k,n,cs⟩:=q;obtain⟨hb,hve⟩:=vy hl;rw[h (by rw[hb];rfl) hve];obtain⟨vals,ho,_⟩:=hr.row id t k n cs hb;rcases ho.2 with⟨e,_⟩|⟨g',cap,cur,e,_⟩<;>rw[e]<;>rfl
 |qs id off k0 ver v hv h=>
  simp only[qh]at hp;cases hl:qm H id ver with
  |none=>rw[hl]at hp;cases hp
  |some q=>
   obtain⟨t,k,n,cs⟩:=q;obtain⟨hb,hve⟩:=vy hl;obtain⟨a,n,c,a',_,e,_⟩:=h (by rw[hb];rfl) hve;rw[e];rfl
 |pp id off ver v hv h=>
  simp only[qh]at hp;cases hl:jl H id ver with
  |none=>rw[hl]at hp;cases hp
  |some q=>
   obtain⟨h1,h2⟩:=zh hl;obtain⟨g,_,rfl⟩:=h h1 h2;rfl
 |_=>simp[qh]at hp
theorem Rp.cells{V:Nat->Value}{w:World}(hr:HRel P W H V w){p:PV}{v:Value}(h:Rp W.Z H V w p v)(hp:okC H p=true):RpL W.Z H V w p.cells v.cells.toList/\∀u∈v.cells.toList,u.oneCell'=true:=by
 cases h with
 |agg cs vs hl hc=>
  simp only[okC,we0]at hp;refine⟨⟨by simpa [PV.cells,Value.cells]using hl,λi p v h1 h2=>hc i p v h1 (by simpa [Value.cells]using h2)⟩,λu hu=>?_⟩;simp only[Value.cells]at hu;obtain⟨i,hi,rfl⟩:=wgb hu;have hi':i<vs.size:=by simpa using hi
  have hic:i<cs.length:=by omega
  have:=hc i cs[i] vs[i] (wd2 hic) (wet hi');have:=this.leaf hr (hp _ (wec hic));simpa using this
 |tup=>simp[okC,qh]at hp
 |unk=>simp[okC,qh]at hp
 |u v=>
  have h1:v.oneCell'=true:=hp;have hc:v.cells = #[v]:=by cases v<;>first|rfl|simp[Value.oneCell']at h1
  rw[hc];exact⟨⟨rfl,λi p u h1 h2=>by
   cases i with
   |zero=>simp[PV.cells]at h1 h2;subst h1 h2;exact .u _
   |succ i=>simp[PV.cells]at h1⟩,by simpa using h1⟩
 |nil k a c=>
  exact⟨⟨rfl,λi p u h1 h2=>by
   cases i with
   |zero=>simp[PV.cells,Value.cells]at h1 h2;subst h1 h2;exact .nil _ _ _
   |succ i=>simp[PV.cells]at h1⟩,by simp[Value.cells,Value.oneCell']⟩
 |sl k xs b o c g hu hlen hz hb h1 h2=>
  exact⟨⟨rfl,λi p u h3 h4=>by
   cases i with
   |zero=>simp[PV.cells,Value.cells]at h3 h4;subst h3 h4;exact .sl k xs b o c g hu hlen hz hb h1 h2
   |succ i=>simp[PV.cells]at h3⟩,by simp[Value.cells,Value.oneCell']⟩
 |fr t k xs v vals hu ho hz h1 h2=>
  have h1':v.oneCell'=true:=Rp.leaf hr (.fr t k xs v vals hu ho hz h1 h2) hp;have hc:v.cells = #[v]:=by cases v<;>first|rfl|simp[Value.oneCell']at h1'
  rw[hc];exact⟨⟨rfl,λi p u h3 h4=>by
   cases i with
   |zero=>simp[PV.cells]at h3 h4;subst h3 h4;exact .fr t k xs _ vals hu ho hz h1 h2
   |succ i=>simp[PV.cells]at h3⟩,by simpa using h1'⟩
 |rp cs b o g hz hb h1 h2=>
  exact⟨⟨rfl,λi p u h3 h4=>by
   cases i with
   |zero=>simp[PV.cells,Value.cells]at h3 h4;subst h3 h4;exact .rp cs b o g hz hb h1 h2
   |succ i=>simp[PV.cells]at h3⟩,by simp[Value.cells,Value.oneCell']⟩
 |fn f a b va vb hla hlb ha hb=>
  exact⟨⟨rfl,λi p u h3 h4=>by
   cases i with
   |zero=>simp[PV.cells,Value.cells]at h3 h4;subst h3 h4;exact .fn f a b va vb hla hlb ha hb
   |succ i=>simp[PV.cells]at h3⟩,by simp[Value.cells,Value.oneCell']⟩
 |ps id ver v hv h=>
  have h1:v.oneCell'=true:=Rp.leaf hr (.ps id ver v hv h) hp;have hc:v.cells = #[v]:=by cases v<;>first|rfl|simp[Value.oneCell']at h1
  rw[hc];exact⟨⟨rfl,λi p u h3 h4=>by
   cases i with
   |zero=>simp[PV.cells]at h3 h4;subst h3 h4;exact .ps id ver _ hv h
   |succ i=>simp[PV.cells]at h3⟩,by simpa using h1⟩
 |qs id off k0 ver v hv h=>
  have h1:v.oneCell'=true:=Rp.leaf hr (.qs id off k0 ver v hv h) hp;have hc:v.cells = #[v]:=by cases v<;>first|rfl|simp[Value.oneCell']at h1
  rw[hc];exact⟨⟨rfl,λi p u h3 h4=>by
   cases i with
   |zero=>simp[PV.cells]at h3 h4;subst h3 h4;exact .qs id off k0 ver _ hv h
   |succ i=>simp[PV.cells]at h3⟩,by simpa using h1⟩
 |pp id off ver v hv h=>
  have h1:v.oneCell'=true:=Rp.leaf hr (.pp id off ver v hv h) hp;have hc:v.cells = #[v]:=by cases v<;>first|rfl|simp[Value.oneCell']at h1
  rw[hc];exact⟨⟨rfl,λi p u h3 h4=>by
   cases i with
   |zero=>simp[PV.cells]at h3 h4;subst h3 h4;exact .pp id off ver _ hv h
   |succ i=>simp[PV.cells]at h3⟩,by simpa using h1⟩
def zuc:PV->Option Value
 |.u v=>some v
 |_=>none
def PV.val2:PV->Option Value
 |.u v=>some v
 |.agg cs=>(cs.mapM zuc).map λl=> .agg l.toArray
 |_=>none
theorem zql:∀{cs:List PV}{l:List Value},cs.mapM zuc=some l->cs=l.map .u
 |[],l,h=>by simp at h;subst h;rfl
 |c::cs,l,h=>by
  simp only[wgl,bind_pure_comp,Option.bind_eq_bind]at h;cases hc:zuc c with
  |none=>rw[hc]at h;cases h
  |some v=>
   cases hm:cs.mapM zuc with
   |none=>rw[hc,hm]at h;cases h
   |some m=>
    rw[hc,hm]at h;simp at h;subst h;have:c=.u v:=by cases c<;>simp[zuc]at hc;subst hc;rfl
    rw[this,zql hm];rfl
theorem Rp.val2{V:Nat->Value}{w:World}{p:PV}{v u:Value}(h:Rp W.Z H V w p v)(hp:p.val2=some u):v=u:=by
 cases h with
 |u v=>simpa [PV.val2]using hp
 |agg cs vs hl hc=>
  simp only[PV.val2,wee]at hp;obtain⟨l,hl2,rfl⟩:=hp;have e:=zql hl2;subst e;congr 1;apply Array.ext';apply wfj;intro i;simp only[wey]at hl;by_cases hi:i<l.length
  ·have h1:(l.map PV.u)[i]?=some (.u l[i]):=by simp[hi]
   have hi2:i<vs.size:=by omega
   have h2:=hc i _ vs[i] h1 (wet hi2);have h3:vs[i]=l[i]:=by generalize vs[i]=q at h2;cases h2;rfl
   simp[hi,hi2,h3]
  ·rw[wfv (by simp;omega),wfv (by simpa using hi)]
 |_=>simp[PV.val2]at hp
def yg(P:Program)(op:BinOp)(t:TypeId)(x y:Operand)(p q:PV):Option PV:=
 match p.val2,q.val2 with
 |some a,some b=>((do eqGuard op t x y a b;binOp op t a b:Sem Value).val P).map ofV
 |_,_=>none
def unP(P:Program)(op:UnOp)(p:PV):Option PV:=
 match p.val2 with
 |some a=>((Op.unary op a).val P).map ofV
 |none=>none
def z5l(P:Program)(s d:TypeId)(p:PV):Option PV:=
 match p.val2 with
 |some a=>((convert s d a).val P).map ofV
 |none=>none
def zw7(P:Program)(b:Builtin)(ts:Array TypeId)(ty:TypeId)(ps:List PV):Option PV:=
 match ps.mapM PV.val2 with
 |some vs=>
  match b with
  |.min=>((Builtin.min_ ts ty vs.toArray).val P).map ofV
  |.max=>((Builtin.max_ ts ty vs.toArray).val P).map ofV
  |_=>none
 |none=>none
def y7(P:Program)(t:TypeId):Bool:=match P.underlying t with|some (.slice _)=>true|_=>false
def zap(P:Program)(t:TypeId):Bool:=match P.underlying t with|some .string=>true|_=>false
def lenP(P:Program)(H:PHeap)(t:TypeId)(p:PV):Option PV:=
 match p with
 |.sl _ xs=>if y7 P t then some (.u (.int .i64 xs.length))else none
 |.ps id ver=>if y7 P t then(qm H id ver).map λq=> .u (.int .i64 q.2.2.1)else none
 |.u (.slice _ n _)=>if y7 P t then some (.u (.int .i64 n))else none
 |.u (.string s)=>if zap P t then some (.u (.int .i64 s.size))else none
 |_=>none
theorem run_len_slice{t:TypeId}(ht:y7 P t=true)(ty:TypeId)(a:Option Addr)(n c:Nat)(w:World):(Builtin.len_ #[t] ty #[.slice a n c]).run P w=.ok (.int .i64 n) w:=by
 unfold y7 at ht;split at ht
 ·rename_i e hu;simp[Builtin.len_,run_underlying hu,goInt]
 ·cases ht
theorem zzu{t:TypeId}(ht:zap P t=true)(ty:TypeId)(s:ByteArray)(w:World):(Builtin.len_ #[t] ty #[.string s]).run P w=.ok (.int .i64 s.size) w:=by
 unfold zap at ht;split at ht
 ·rename_i hu;simp[Builtin.len_,run_underlying hu,goInt]
 ·cases ht
theorem HRel.row_shape{V:Nat->Value}{w:World}(hr:HRel P W H V w){id ver:Nat}{q}(h:qm H id ver=some q){v:Value}(hv:Rp W.Z H V w (.ps id ver) v):∃a c,v=.slice a q.2.2.1 c:=by
 obtain⟨t,k,n,cs⟩:=q;obtain⟨hb,hve⟩:=vy h;cases hv with
 |ps _ _ _ hvv hh=>
  rw[hh (by rw[hb];rfl) hve];obtain⟨vals,ho,_⟩:=hr.row id t k n cs hb;rcases ho.2 with⟨e,rfl⟩|⟨g',cap,cur,e,_⟩
  ·exact⟨none,0,e⟩
  ·exact⟨_,cap,e⟩
theorem Rp.sl_shape{V:Nat->Value}{w:World}{k:Nat}{xs:List PV}{v:Value}(h:Rp W.Z H V w (.sl k xs) v):∃a c,v=.slice a xs.length c/\xs.length<=c\/xs=[]/\v=.slice a 0 c:=by
 cases h with
 |nil k a c=>exact⟨a,c,.inr ⟨rfl,rfl⟩⟩
 |sl k xs b o c g hu hlen=>exact⟨_,c,.inl ⟨rfl,hlen⟩⟩
theorem ja5{V:Nat->Value}{w:World}(hr:HRel P W H V w){t ty:TypeId}{y q:PV}{v:Value}(hx:Rp W.Z H V w y v)(hq:lenP P H t y=some q):∃u,(Builtin.len_ #[t] ty #[v]).run P w=.ok u w/\Rp W.Z H V w q u:=by
 unfold lenP at hq;split at hq
 ·split at hq
  ·rename_i xs ht;cases hq;obtain⟨a,c,⟨rfl,_⟩|⟨rfl,rfl⟩⟩:=hx.sl_shape
   ·exact⟨_,run_len_slice ht ty _ _ _ _,.u _⟩
   ·exact⟨_,run_len_slice ht ty _ _ _ _,.u _⟩
  ·cases hq
 ·split at hq
  ·rename_i id ver ht;cases hl:qm H id ver with
   |none=>rw[hl]at hq;cases hq
   |some r=>
    rw[hl]at hq;cases hq;obtain⟨a,c,rfl⟩:=hr.row_shape hl hx;exact⟨_,run_len_slice ht ty _ _ _ _,.u _⟩
  ·cases hq
 ·split at hq
  ·rename_i ht;cases hq;cases hx;exact⟨_,run_len_slice ht ty _ _ _ _,.u _⟩
  ·cases hq
 ·split at hq
  ·rename_i ht;cases hq;cases hx;exact⟨_,zzu ht ty _ _,.u _⟩
  ·cases hq
 ·cases hq
theorem zhd{k:Nat}:∀{xs:List PV},(∀y∈xs,y.cells.length=k)->∀(i j:Nat)(y:PV),xs[i]?=some y->j<k->(xs.flatMap PV.cells)[i*k+j]?=y.cells[j]?
 |[],_,i,j,y,h,_=>by simp at h
 |x::xs,hu,0,j,y,h,hj=>by
  simp at h;subst h;have hx:=hu x (by simp);rw[wex,Nat.zero_mul,wfa,weg (by omega)]
 |x::xs,hu,i+1,j,y,h,hj=>by
  have hx:=hu x (by simp);simp only[wgd]at h;rw[wex,wei (by rw[hx,wfr];omega),hx,show(i+1)*k+j-k=i*k+j by rw[wfr];omega];exact zhd (λy hy=>hu y (by simp[hy])) i j y h hj
def indexAddrP(P:Program)(H:PHeap)(t:TypeId)(p i:PV):Option PV:=
 match i with
 |.u (.int _ z)=>
  if 0<=z then
   match p with
   |.sl k xs=>if esz P t=some k then(xs[z.toNat]?).map λy=> .rp y.cells else none
   |.ps id ver=>
    match qm H id ver with
    |some (_,k,n,_)=>if esz P t=some k/\z.toNat<n then some (.pp id (z.toNat*k) ver)else none
    |none=>none
   |.pp id off ver=>
    match arr P t with
    |some (n,k)=>if z.toNat<n then(jl H id ver).map λ_=> .pp id (off+z.toNat*k) ver else none
    |none=>none
   |.rp cs=>
    match arr P t with
    |some (n,k)=>if z.toNat<n then some (.rp (cs.drop (z.toNat*k)))else none
    |none=>none
   |_=>none
  else none
 |_=>none
theorem run_indexAt_slice{t e:TypeId}{i:TypeInfo}(ht:P.underlying t=some (.slice e))(hi:P.info? e=some i)(w:World)(b o n c:Nat)(kd:IntKind)(z:Int)(h0:0<=z)(hz:z.toNat<n):
  (Instr.indexAt t (.slice (some ⟨b,o,none⟩) n c) (.int kd z)).run P w=.ok (.pointer (some ⟨b,o+z.toNat*i.size,none⟩)) w:=by
 have hz':z<n:=by omega
 simp[Instr.indexAt,run_underlying ht,asIntOf,sizeOf,typeInfo,hi,h0,hz',zq]
theorem zfi{t e:TypeId}{i:TypeInfo}{n:Nat}(ht:P.underlying t=some (.array n e))(hi:P.info? e=some i)(w:World)(b o:Nat)(kd:IntKind)(z:Int)(h0:0<=z)(hz:z.toNat<n):
  (Instr.indexAt t (.pointer (some ⟨b,o,none⟩)) (.int kd z)).run P w=.ok (.pointer (some ⟨b,o+z.toNat*i.size,none⟩)) w:=by
 have hz':z<n:=by omega
 simp[Instr.indexAt,Instr.sureAddr,run_underlying ht,asIntOf,sizeOf,typeInfo,hi,h0,hz',zq]
theorem zre{V:Nat->Value}{w:World}(hr:HRel P W H V w){t:TypeId}{y i q:PV}{v u:Value}(hx:Rp W.Z H V w y v)(hi:Rp W.Z H V w i u)(hq:indexAddrP P H t y i=some q):
  ∃r,(Instr.indexAt t v u).run P w=.ok r w/\Rp W.Z H V w q r:=by
 unfold indexAddrP at hq;split at hq
 rotate_left
 ·cases hq
 rename_i kd z;cases hi;split at hq
 rotate_left
 ·cases hq
 rename_i h0;split at hq
 ·rename_i k xs;split at hq
  ·rename_i he;obtain⟨e,ti,ht,hti,rfl⟩:=zac he;cases hy:xs[z.toNat]? with
   |none=>rw[hy]at hq;cases hq
   |some y=>
    rw[hy]at hq;cases hq;cases hx with
    |nil=>simp at hy
    |sl k xs b o c g hu hlen hz hb h1 h2=>
     have hlt:=(wd5.1 hy).1;refine⟨_,run_indexAt_slice ht hti w b o xs.length c kd z h0 hlt,.rp _ b _ (λj=>g (z.toNat*ti.size+j)) hz hb (λj p hj=>?_) (λj p hj=>?_)⟩
     ·have hjk:j<ti.size:=by rw[<- hu y (wd7 hy)];exact(wd5.1 hj).1
      have:=h1 (z.toNat*ti.size+j) p (by rw[zhd hu _ j y hy hjk];exact hj);rw[<- wgj]at this;exact this
     ·have hjk:j<ti.size:=by rw[<- hu y (wd7 hy)];exact(wd5.1 hj).1
      exact h2 (z.toNat*ti.size+j) p (by rw[zhd hu _ j y hy hjk];exact hj)
  ·cases hq
 ·rename_i id ver;split at hq
  ·rename_i t' k n cs hl;split at hq
   ·rename_i hc;cases hq;obtain⟨e,ti,ht,hti,rfl⟩:=zac hc.1;obtain⟨hb,hve⟩:=vy hl;cases hx with
    |ps _ _ _ hvv hh=>
     have hV:=hh (by rw[hb];rfl) hve;obtain⟨vals,ho,_⟩:=hr.row id t' _ n cs hb;rcases ho.2 with⟨e',rfl⟩|⟨g',cap,cur,e',_⟩
     ·have:=hc.2;omega
     ·rw[hV,e'];refine⟨_,run_indexAt_slice ht hti w g' 0 n cap kd z h0 hc.2,?_⟩;rw[wfa];exact .pp _ _ _ _ hvv λ_ _=>⟨g',by rw[e'];rfl,rfl⟩
   ·cases hq
  ·cases hq
 ·rename_i id off ver;split at hq
  ·rename_i n k ha;split at hq
   ·rename_i hn;cases hl:jl H id ver with
    |none=>rw[hl]at hq;cases hq
    |some cs=>
     rw[hl]at hq;cases hq;obtain⟨h1,h2⟩:=zh hl;obtain⟨e,ti,ht,hti,rfl⟩:=zsr ha;cases hx with
     |pp _ _ _ _ hv' h=>
      obtain⟨g,hg,rfl⟩:=h h1 h2;exact⟨_,zfi ht hti w g off kd z h0 hn,.pp _ _ _ _ hv' λ_ _=>⟨g,hg,rfl⟩⟩
   ·cases hq
  ·cases hq
 ·rename_i cs;split at hq
  ·rename_i n k ha;split at hq
   ·rename_i hn;cases hq;obtain⟨e,ti,ht,hti,rfl⟩:=zsr ha;cases hx with
    |rp _ b o g hz hb h1 h2=>exact⟨_,zfi ht hti w b o kd z h0 hn,wb1 (W:=W) (.rp cs b o g hz hb h1 h2) _⟩
   ·cases hq
  ·cases hq
 ·cases hq
def zvd(P:Program)(t:TypeId)(cs:List PV)(off:Nat):Option PV:=
 match asz P t with
 |some (ag,k)=>qw ag k (cs.drop off)
 |none=>none
theorem zvr{V:Nat->Value}{w:World}{t:TypeId}{cs:List PV}{vs:Array Value}{off:Nat}{q:PV}(hl:cs.length=vs.size)(hc:∀(i:Nat)(p:PV)(v:Value),cs[i]?=some p->vs[i]?=some v->Rp W.Z H V w p v)(hq:zvd P t cs off=some q):
  ∃u,(part t vs off).run P w=.ok u w/\Rp W.Z H V w q u:=by
 unfold zvd at hq;cases ha:asz P t with
 |none=>rw[ha]at hq;cases hq
 |some gk=>
  obtain⟨ag,k⟩:=gk;rw[ha]at hq;simp only at hq;obtain⟨h1,h2⟩:=zgx ha w;unfold qw at hq;cases ag with
  |false=>
   simp only[we4,if_false,we5,wfu]at hq;have hlt:=(wd5.1 hq).1;have hv:=wet (xs:=vs) (show off<vs.size by omega);exact⟨vs[off]'(by omega),by unfold part;simp[Sem.run_bind,h1,hv],hc off q _ hq hv⟩
  |true=>
   simp only[if_true,wfc]at hq;split at hq
   ·rename_i hk;cases hq;refine⟨.agg (vs.extract off (off+k)),by unfold part;simp[Sem.run_bind,h1,h2],?_⟩;refine .agg _ _ (by simp;omega) λi p v h3 h4=>?_;rw[wfm]at h3;split at h3
    ·rename_i hi;rw[we5]at h3;refine hc (off+i) p v h3 ?_;rw[Array.getElem?_extract]at h4;split at h4
     ·exact h4
     ·cases h4
    ·cases h3
   ·cases hq
def zxu(P:Program)(t:TypeId)(f:Nat)(p:PV):Option PV:=
 match fof P t f,p with
 |some (off,ft),.agg cs=>zvd P ft cs off
 |_,_=>none
theorem z30{V:Nat->Value}{w:World}{t:TypeId}{f:Nat}{y q:PV}{v:Value}(hx:Rp W.Z H V w y v)(hq:zxu P t f y=some q):∃u,(Instr.field t v f).run P w=.ok u w/\Rp W.Z H V w q u:=by
 unfold zxu at hq;split at hq
 ·rename_i off ft cs hf;obtain⟨fs,fx,hu,hfx,rfl,rfl⟩:=zyo hf;cases hx with
  |agg _ vs hl hc=>
   obtain⟨u,hu2,hp⟩:=zvr hl hc hq;exact⟨u,by simp[Instr.field,run_underlying hu,hfx,asAgg,hu2],hp⟩
 ·cases hq
def zio(P:Program)(t:TypeId)(p i:PV):Option PV:=
 match i with
 |.u (.int kd z)=>
  match p with
  |.agg cs=>
   match arr P t,ja8 P t with
   |some (n,k),some e=>if 0<=z/\z.toNat<n then zvd P e cs (z.toNat*k)else none
   |_,_=>none
  |.u (.string s)=>if zap P t then(if 0<=z then(s[z.toNat]?).map λb=> .u (.int .u8 b.toNat)else none)else none
  |_=>none
 |_=>none
theorem z3q{V:Nat->Value}{w:World}{t:TypeId}{y i q:PV}{v u:Value}(hx:Rp W.Z H V w y v)(hi:Rp W.Z H V w i u)(hq:zio P t y i=some q):∃r,(Instr.index t v u).run P w=.ok r w/\Rp W.Z H V w q r:=by
 unfold zio at hq;split at hq
 rotate_left
 ·cases hq
 rename_i kd z;cases hi;split at hq
 ·rename_i cs;split at hq
  ·rename_i n k e ha he;split at hq
   ·rename_i hz;obtain⟨e',ti,ht,hti,rfl⟩:=zsr ha;have hee:e'=e:=by unfold ja8 at he;rw[ht]at he;simpa using he
    subst hee;cases hx with
    |agg _ vs hl hc=>
     obtain⟨r,hr,hp⟩:=zvr hl hc hq;have hz':z<n:=by omega
     exact⟨r,by simp[Instr.index,run_underlying ht,asIntOf,hz.1,hz',sizeOf,typeInfo,hti,hr],hp⟩
   ·cases hq
  ·cases hq
 ·rename_i s;cases hx;split at hq
  ·rename_i hs;split at hq
   ·rename_i h0;cases hb:s[z.toNat]? with
    |none=>rw[hb]at hq;cases hq
    |some b=>
     rw[hb]at hq;cases hq;unfold zap at hs;split at hs
     ·rename_i hu;exact⟨_,by simp[Instr.index,run_underlying hu,asIntOf,h0,hb],.u _⟩
     ·cases hs
   ·cases hq
  ·cases hq
 ·cases hq
def zdd(d:Nat):Option PV->Option Nat
 |none=>some d
 |some (.u (.int _ z))=>if 0<=z then some z.toNat else none
 |_=>none
def zeu(P:Program)(t:TypeId)(p:PV)(lo hi:Option PV):Option PV:=
 match p with
 |.sl k xs=>
  match zdd 0 lo,zdd xs.length hi with
  |some l,some h=>if esz P t=some k/\l<=h/\h<=xs.length then some (.sl k ((xs.take h).drop l))else none
  |_,_=>none
 |.u (.string s)=>
  match zdd 0 lo,zdd s.size hi with
  |some l,some h=>if zap P t/\l<=h/\h<=s.size then some (.u (.string (s.extract l h)))else none
  |_,_=>none
 |_=>none
theorem Yt{w:World}{kd:IntKind}{z:Int}(h0:0<=z){n:Nat}(hz:z.toNat<=n)(c:BoundsCode):(Instr.sliceBound (.int kd z) n c).run P w=.ok z.toNat w:=by
 have:z<=n:=by omega
 simp[Instr.sliceBound,asIntOf,h0,this]
theorem ze1{V:Nat->Value}{w:World}{d l:Nat}{lo:Option PV}{vo:Option Value}(hlo:∀p v,lo=some p->vo=some v->Rp W.Z H V w p v)(hs:lo.isSome=vo.isSome)(hb:zdd d lo=some l):
  (vo=none/\l=d)\/∃kd z,vo=some (.int kd z)/\0<=z/\z.toNat=l:=by
 cases lo with
 |none=>
  cases vo with
  |none=>simp[zdd]at hb;exact .inl ⟨rfl,hb.symm⟩
  |some v=>cases hs
 |some p=>
  cases vo with
  |none=>cases hs
  |some v=>
   have hp:=hlo p v rfl rfl;unfold zdd at hb;split at hb
   ·rename_i h;cases h
   ·rename_i kd z h;cases h;split at hb
    ·rename_i h0;cases hb;cases hp;exact .inr ⟨kd,z,rfl,h0,rfl⟩
    ·cases hb
   ·cases hb
theorem zkp{k:Nat}:∀{xs:List PV},(∀y∈xs,y.cells.length=k)->∀m,(xs.take m).flatMap PV.cells=(xs.flatMap PV.cells).take (m*k)
 |[],_,m=>by simp
 |x::xs,hu,0=>by simp
 |x::xs,hu,m+1=>by
  have hx:=hu x (by simp);rw[List.take_succ_cons,wex,wex,zkp (λy hy=>hu y (by simp[hy])) m,List.take_append,hx,wfr,Nat.one_mul,Nat.add_sub_cancel,wfs (show x.cells.length<=m*k+k by omega)]
theorem zjk{k:Nat}:∀{xs:List PV},(∀y∈xs,y.cells.length=k)->∀m,(xs.drop m).flatMap PV.cells=(xs.flatMap PV.cells).drop (m*k)
 |[],_,m=>by simp
 |x::xs,hu,0=>by simp
 |x::xs,hu,m+1=>by
  have hx:=hu x (by simp);rw[List.drop_succ_cons,wex,zjk (λy hy=>hu y (by simp[hy])) m,List.drop_append,hx,wfr,Nat.one_mul,Nat.add_sub_cancel,List.drop_of_length_le (show x.cells.length<=m*k+k by omega),wfx]
theorem wdr{V:Nat->Value}{w:World}{k:Nat}{xs:List PV}{b o c:Nat}(h:Rp W.Z H V w (.sl k xs) (.slice (some ⟨b,o,none⟩) xs.length c))(l m c':Nat)(hl:l<=m)(hm:m<=xs.length)(hc:m-l<=c')(hpos:xs≠[]):Rp W.Z H V w (.sl k ((xs.take m).drop l)) (.slice (some ⟨b,o+l*k,none⟩) (m-l) c'):=by
 cases h with
 |nil=>exact absurd rfl hpos
 |sl _ _ _ _ _ g hu hlen hz hb h1 h2=>
  have hlen':((xs.take m).drop l).length=m-l:=by simp;omega
  have hut:∀y∈xs.take m,y.cells.length=k:=λy hy=>hu y (wgi hy);have hget:∀(i:Nat)(p:PV),(((xs.take m).drop l).flatMap PV.cells)[i]?=some p->(xs.flatMap PV.cells)[l*k+i]?=some p:=λi p hi=>by
   rw[zjk hut,we5,zkp hu,wfm]at hi;split at hi
   ·exact hi
   ·cases hi
  have:=Rp.sl (Z:=W.Z) (H:=H) (V:=V) (w:=w) k ((xs.take m).drop l) b (o+l*k) c' (λi=>g (l*k+i)) (λy hy=>hut y (wgh hy)) (by rw[hlen'];exact hc) hz hb (λi p hi=>by rw[wgj];exact h1 _ p (hget i p hi)) (λi p hi=>h2 _ p (hget i p hi));rwa [hlen']at this
theorem yo{w:World}{isS:Bool}{len cap l h:Nat}{lo hi:Option Value}(hlo:(lo=none/\l=0)\/∃kd z,lo=some (.int kd z)/\0<=z/\z.toNat=l)(hhi:(hi=none/\h=len)\/∃kd z,hi=some (.int kd z)/\0<=z/\z.toNat=h)(h1:l<=h)(h2:h<=cap):
  (Instr.sliceBounds isS len cap lo hi none).run P w=.ok (l,h,cap) w:=by
 unfold Instr.sliceBounds;rcases hhi with⟨rfl,rfl⟩|⟨kd,z,rfl,h0,rfl⟩
 ·rcases hlo with⟨rfl,rfl⟩|⟨kd',z',rfl,h0',rfl⟩
  ·simp
  ·simp[Yt h0' h1]
 ·rcases hlo with⟨rfl,rfl⟩|⟨kd',z',rfl,h0',rfl⟩
  ·simp[Yt h0 h2]
  ·simp[Yt h0 h2,Yt h0' h1]
theorem z29{V:Nat->Value}{w:World}{t:TypeId}{y q:PV}{lo hi:Option PV}{v:Value}{vl vh:Option Value}(hx:Rp W.Z H V w y v)(hlo:∀p v,lo=some p->vl=some v->Rp W.Z H V w p v)(hsl:lo.isSome=vl.isSome)(hhi:∀p v,hi=some p->vh=some v->Rp W.Z H V w p v)(hsh:hi.isSome=vh.isSome)
  (hq:zeu P t y lo hi=some q):∃r,(Instr.sliceAt t v vl vh none).run P w=.ok r w/\Rp W.Z H V w q r:=by
 unfold zeu at hq;split at hq
 ·rename_i k xs;split at hq
  ·rename_i l h hl hh;split at hq
   ·rename_i hc;cases hq;obtain⟨hk,h1,h2⟩:=hc;obtain⟨e,ti,ht,hti,rfl⟩:=zac hk;have hlo':=ze1 hlo hsl hl;have hhi':=ze1 hhi hsh hh;obtain⟨a,c,⟨rfl,hcap⟩|⟨rfl,rfl⟩⟩:=hx.sl_shape
    ·have hrun:(Instr.sliceAt t (.slice a xs.length c) vl vh none).run P w=.ok (.slice (if c=l then a else a.map (·.add (l*ti.size))) (h-l) (c-l)) w:=by
      have hb:=yo (P:=P) (w:=w) (isS:=true) hlo' hhi' h1 (wfn h2 hcap);simp[Instr.sliceAt,Instr.slice,run_underlying ht,hb,sizeOf,typeInfo,hti]
     refine⟨_,hrun,?_⟩;by_cases hlh:l=h
     ·subst hlh;have:(xs.take l).drop l=[]:=by simp
      rw[this,wg2];exact .nil _ _ _
     ·have hpos:xs≠[]:=by intro e;subst e;simp at h2;omega
      have hcl:¬(c=l):=by omega
      rw[if_neg hcl];cases hx with
      |nil=>exact absurd rfl hpos
      |sl _ _ b o _ g hu hlen hz hb' h3 h4=>
       simp only[wer,zq];exact wdr (.sl _ xs b o c g hu hlen hz hb' h3 h4) l h (c-l) h1 h2 (by omega) hpos
    ·simp only[wgp,Nat.le_zero]at h2;subst h2;have h1':l=0:=by omega
     subst h1';have hb:=yo (P:=P) (w:=w) (isS:=true) (len:=0) (cap:=c) hlo' (by simpa using hhi') (weh 0) (wgm c);refine⟨.slice (if c=0 then a else a.map (·.add (0*ti.size))) (0-0) (c-0),by simp[Instr.sliceAt,Instr.slice,run_underlying ht,hb,sizeOf,typeInfo,hti],?_⟩;simp only[List.take_nil,List.drop_nil,wg2];exact .nil _ _ _
   ·cases hq
  ·cases hq
 ·rename_i s;split at hq
  ·rename_i l h hl hh;split at hq
   ·rename_i hc;cases hq;obtain⟨hk,h1,h2⟩:=hc;cases hx;have hlo':=ze1 hlo hsl hl;have hhi':=ze1 hhi hsh hh;unfold zap at hk;split at hk
    ·rename_i hu;have hb:=yo (P:=P) (w:=w) (isS:=false) hlo' hhi' h1 h2;exact⟨_,by simp[Instr.sliceAt,Instr.slice,run_underlying hu,hb],.u _⟩
    ·cases hk
   ·cases hq
  ·cases hq
 ·cases hq
end
section
variable{P:Program}{W:Env}{n:Nat}{H:PHeap}{F:PFrame}
def setMany{α:Type}(cs:List α)(off:Nat)(ps:List α):List α:=cs.take off++ps++cs.drop (off+ps.length)
theorem za{α:Type}(cs ps:List α)(off:Nat)(h:off+ps.length<=cs.length)(i:Nat):(setMany cs off ps)[i]?=if off<=i/\i<off+ps.length then ps[i-off]? else cs[i]?:=by
 unfold setMany;have hl:(cs.take off).length=off:=by simp;omega
 by_cases h1:i<off
 ·rw[if_neg (by omega),weu,weg (by omega),wfm,if_pos h1]
 ·by_cases h2:i<off+ps.length
  ·rw[if_pos ⟨by omega,h2⟩,weu,wei (by omega),hl,weg (by omega)]
  ·rw[if_neg (by omega),wei (by simp;omega),we5];congr 1;simp;omega
theorem Qt{α:Type}(cs ps:List α)(off:Nat)(h:off+ps.length<=cs.length):(setMany cs off ps).length=cs.length:=by
 unfold setMany;simp;omega
theorem z0k(off:Nat):∀(l:List Value)(k:Nat)(cells:Array Value),off+k+l.length<=cells.size ->
  ((l.zipIdx k).foldl (λcs(x:Value×Nat)=>cs.setIfInBounds (off+x.2) x.1) cells).toList=setMany cells.toList (off+k) l
 |[],k,cells,h=>by simp[setMany]
 |v::l,k,cells,h=>by
  simp only[List.zipIdx_cons,whd];rw[z0k off l (k+1) _ (by simp at h⊢;omega)];simp only[we2]at h;apply wfj;intro i;rw[za _ _ _ (by simp;omega),za _ _ _ (by simp;omega)];simp only[we2,Array.toList_setIfInBounds];by_cases h1:i=off+k
  ·subst h1;rw[if_neg (by omega),if_pos (by omega),wev,if_pos rfl,if_pos (by simp;omega),wg2];simp
  ·by_cases h2:off+(k+1)<=i/\i<off+(k+1)+l.length
   ·rw[if_pos h2,if_pos (by omega),show i-(off+k)=(i-(off+(k+1)))+1 by omega,wgd]
   ·rw[if_neg h2,if_neg (by omega),wev,if_neg (by omega)]
def Yy(H:PHeap)(places:List (Nat×Nat)):List PV->List (Nat×PV)->Option (List PV)
 |cs,[]=>some cs
 |cs,(i,p)::rest=>
  match places[i]? with
  |none=>none
  |some (off,size)=>if p.cells.length=size/\off+size<=cs.length/\okC H p=true then Yy H places (setMany cs off p.cells) rest else none
theorem RpL.setMany{V:Nat->Value}{w:World}{cs ps:List PV}{vs us:List Value}(h:RpL W.Z H V w cs vs)(h2:RpL W.Z H V w ps us){off:Nat}(hl:off+ps.length<=cs.length):RpL W.Z H V w (setMany cs off ps) (setMany vs off us):=by
 have e1:=h.1;have e2:=h2.1;refine⟨by rw[Qt _ _ _ hl,Qt _ _ _ (by omega),e1],λi p v h3 h4=>?_⟩;rw[za _ _ _ hl]at h3;rw[za _ _ _ (by omega),<- e2]at h4;split at h3
 ·rename_i hc;rw[if_pos hc]at h4;exact h2.2 _ p v h3 h4
 ·rename_i hc;rw[if_neg hc]at h4;exact h.2 _ p v h3 h4
theorem zga{α:Type}{cs ps:List α}{off:Nat}{x:α}(h:x∈setMany cs off ps):x∈cs\/x∈ps:=by
 unfold setMany at h;simp only[wej]at h;rcases h with(h|h)|h
 ·exact .inl (wgi h)
 ·exact .inr h
 ·exact .inl (wgh h)
def RpParts(Z:ZM)(H:PHeap)(V:Nat->Value)(w:World)(ps:List (Nat×PV))(vs:List (Nat×Value)):Prop:=ps.length=vs.length/\∀(i:Nat)(p:Nat×PV)(v:Nat×Value),ps[i]?=some p->vs[i]?=some v->p.1=v.1/\Rp Z H V w p.2 v.2
theorem ze9{V:Nat->Value}{w:World}(hr:HRel P W H V w){place:Nat->Option (Nat×Nat)}{places:List (Nat×Nat)}(hp:∀(i:Nat)(x:Nat×Nat),places[i]?=some x->place i=some x):∀(ps:List (Nat×PV))(vs:List (Nat×Value))(cs:List PV)(arr:Array Value)(q:List PV),
  RpParts W.Z H V w ps vs->RpL W.Z H V w cs arr.toList->(∀v∈arr.toList,v.oneCell'=true)->Yy H places cs ps=some q->∃r,Instr.fill place arr vs=some r/\RpL W.Z H V w q r.toList/\∀v∈r.toList,v.oneCell'=true
 |[],[],cs,arr,q,_,hc,h1,hq=>by simp only[Yy,we6]at hq;subst hq;exact⟨arr,rfl,hc,h1⟩
 |[],_::_,_,_,_,h,_,_,_=>by have:=h.1;simp at this
 |_::_,[],_,_,_,h,_,_,_=>by have:=h.1;simp at this
 |(i,p)::ps,(j,v)::vs,cs,arr,q,h,hc,h1,hq=>by
  obtain⟨e,hpv⟩:=h.2 0 _ _ rfl rfl;simp only at e hpv;subst e;simp only[Yy]at hq;split at hq
  ·cases hq
  ·rename_i off size hpl;split at hq
   ·rename_i hcond;obtain⟨hk,hoff,hok⟩:=hcond;obtain⟨hcells,hone⟩:=hpv.cells hr hok;have hvs:v.cells.size=size:=by rw[<- hk];have:=hcells.1;simpa using this.symm
    have hasz:arr.size=cs.length:=by have:=hc.1;simpa using this.symm
    have hfold:(v.cells.zipIdx.foldl (λcs(x:Value×Nat)=>cs.setIfInBounds (off+x.2) x.1) arr).toList=setMany arr.toList off v.cells.toList:=by
     have:=z0k off v.cells.toList 0 arr (by simp;omega);rw[wfu]at this;rw[<- this,<- Array.foldl_toList,Array.toList_zipIdx]
    obtain⟨r,hr1,hr2,hr3⟩:=ze9 hr hp ps vs _ (v.cells.zipIdx.foldl (λcs(x:Value×Nat)=>cs.setIfInBounds (off+x.2) x.1) arr) q ⟨by have:=h.1;simpa using this,λk a b ha hb=>h.2 (k+1) a b (by simpa using ha) (by simpa using hb)⟩
     (by rw[hfold];exact hc.setMany hcells (by omega)) (by rw[hfold];intro u hu;rcases zga hu with hu|hu;exact h1 u hu;exact hone u hu) hq
    refine⟨r,?_,hr2,hr3⟩;simp only[Instr.fill,hp i _ hpl];rw[if_neg (by simp[hvs];omega)];exact hr1
   ·cases hq
def z0e(P:Program)(t:TypeId):Option (List PV×List (Nat×Nat)):=
 match (P.info? t).bind (·.zero)with
 |none=>none
 |some z=>
  match P.underlying t with
  |some (.struct fs)=>(fs.toList.mapM λf=>(P.info? f.type).map λi=>(f.offset,i.size)).map λl=>(z.cells.toList.map .u,l)
  |some (.array m e)=>(P.info? e).map λi=>(z.cells.toList.map .u,(List.range m).map λj=>(j*i.size,i.size))
  |_=>none
theorem z0i{α β:Type}(f:α->Sem β):∀l:List α,(l.mapM f).val P=l.mapM λa=>(f a).val P
 |[]=>by simp[qk]
 |a::l=>by
  simp only[wgl,qi,qk,z0i f l];rfl
theorem RpL.us{V:Nat->Value}{w:World}(vs:List Value):RpL W.Z H V w (vs.map .u) vs:=⟨by simp,λi p v h1 h2=>by
 rw[web,h2]at h1;cases h1;exact .u _⟩
def zm2(P:Program)(H:PHeap)(t:TypeId)(parts:List (Nat×PV)):Option PV:=
 match z0e P t with
 |none=>none
 |some (zs,places)=>if zs.all (qh H)then(Yy H places zs parts).map .agg else none
theorem z2r{V:Nat->Value}{w:World}(hr:HRel P W H V w){t:TypeId}{ps:List (Nat×PV)}{vs:Array (Nat×Value)}{q:PV}(hp:RpParts W.Z H V w ps vs.toList)(hq:zm2 P H t ps=some q):∃r,(Instr.build t vs).run P w=.ok r w/\Rp W.Z H V w q r:=by
 unfold zm2 at hq;cases hb:z0e P t with
 |none=>rw[hb]at hq;cases hq
 |some zp=>
  obtain⟨zs,places⟩:=zp;rw[hb]at hq;simp only at hq;split at hq
  rotate_left
  ·cases hq
  rename_i hall;cases hf:Yy H places zs ps with
  |none=>rw[hf]at hq;cases hq
  |some cs=>
   rw[hf]at hq;cases hq;unfold z0e at hb;cases hz:(P.info? t).bind (·.zero)with
   |none=>rw[hz]at hb;cases hb
   |some z=>
    rw[hz]at hb;simp only at hb;obtain⟨ti,hti,htz⟩:=wgf.1 hz;have hzero:(zeroValue t).run P w=.ok z w:=by simp[zeroValue,typeInfo,hti,htz]
    have hone:∀cs':List Value,zs=cs'.map .u->∀v∈cs',v.oneCell'=true:=λcs' e v hv=>by
     rw[we0]at hall;exact hall (.u v) (by rw[e];exact List.mem_map_of_mem hv)
    split at hb
    ·rename_i fs hu;obtain⟨l,hl,he⟩:=wee.1 hb;cases he;have hpl:(fs.mapM λf=>(do pure (f.offset,<- sizeOf f.type):Sem (Nat×Nat))).run P w=.ok places.toArray w:=by
      refine zbo ?_ w;rw[Array.mapM_eq_mapM_toList];show(List.toArray <$> _:Sem _).val P=_;rw[<- bind_pure_comp,qi,z0i];have:(λf:Field=>(do pure (f.offset,<- sizeOf f.type):Sem (Nat×Nat)).val P)=λf=>(P.info? f.type).map λi=>(f.offset,i.size):=by
       funext f;cases hi:P.info? f.type with
       |none=>simp[sizeOf,typeInfo,program,qi,zpc,Sem.val,hi,stuck]
       |some i=>simp[sizeOf,typeInfo,program,qi,zpc,qk,Sem.val,hi]
      rw[this,hl];rfl
     obtain⟨r,hr1,hr2,_⟩:=ze9 hr (place:=(places.toArray[·]?)) (places:=places) (λi x hx=>by simpa using hx) ps vs.toList _ z.cells cs hp (RpL.us _) (hone _ rfl) hf;refine⟨.agg r,?_,.agg _ _ (by simpa using hr2.1) λi p v h1 h2=>hr2.2 i p v h1 (by simpa using h2)⟩;unfold Instr.build;simp only[Sem.run_bind,hzero,Result.andThen_ok,run_underlying hu,hpl,hr1,Sem.run_pure]
    ·rename_i m e hu;obtain⟨i,hi,he⟩:=wee.1 hb;cases he;obtain⟨r,hr1,hr2,_⟩:=ze9 hr (place:=λj=>some (j*i.size,i.size)) (places:=(List.range m).map λj=>(j*i.size,i.size)) (λj x hx=>by
      rw[web]at hx;cases hj:(List.range m)[j]? with
      |none=>rw[hj]at hx;cases hx
      |some j'=>
       rw[hj]at hx;have:j'=j:=by
        have:=wd5.1 hj;obtain⟨h1,h2⟩:=this;simpa using h2.symm
       subst this;simpa using hx) ps vs.toList _ z.cells cs hp (RpL.us _) (hone _ rfl) hf
     refine⟨.agg r,?_,.agg _ _ (by simpa using hr2.1) λi p v h1 h2=>hr2.2 i p v h1 (by simpa using h2)⟩;unfold Instr.build;simp[Sem.run_bind,hzero,run_underlying hu,sizeOf,typeInfo,hi,hr1]
    ·cases hb
end
section
variable{P:Program}{W:Env}{n:Nat}{H:PHeap}{F:PFrame}
def je1(H:PHeap):PV->Option PV
 |.pp id off ver=>(jl H id ver).map λ_=> .pp id off ver
 |.rp cs=>some (.rp cs)
 |.fn (.func g) a b=>some (.fn (.func g) a b)
 |_=>none
def z87(P:Program)(H:PHeap)(F:PFrame)(ty:TypeId)(c:Call):Option PV:=
 match c.callee with
 |.builtin .len=>
  match c.args.toList,c.argTypes.toList with
  |[x],[t]=>lenP P H t (evP F x)
  |_,_=>none
 |.builtin b=>zw7 P b c.argTypes ty (c.args.toList.map (evP F))
 |_=>none
def z4m(P:Program)(t:TypeId):Bool:=match P.underlying t with|some (.pointer _)=>true|_=>false
def zsg(H:PHeap):PV->Option Bool
 |.sl _ (_::_)=>some false
 |.u (.slice a _ _)=>some a.isNone
 |.ps id ver=>match qm H id ver with
  |some (_,_,n,_)=>if 0<n then some false else none
  |none=>none
 |_=>none
def zlk(H:PHeap):PV->Option Bool
 |.rp _=>some false
 |.u (.pointer a)=>some a.isNone
 |.pp id _ ver=>(jl H id ver).map λ_=>false
 |_=>none
theorem z0s{V:Nat->Value}{w:World}(hr:HRel P W H V w){p:PV}{b:Bool}{v:Value}(h:zsg H p=some b)(hp:Rp W.Z H V w p v):∃a m c,v=.slice a m c/\a.isNone=b:=by
 unfold zsg at h;split at h
 ·cases h;cases hp;exact⟨_,_,_,rfl,rfl⟩
 ·cases h;cases hp;exact⟨_,_,_,rfl,rfl⟩
 ·split at h
  ·rename_i t k m cs hl;split at h
   ·rename_i hm;cases h;obtain⟨hb,hve⟩:=vy hl;cases hp with
    |ps _ _ _ hvv hh=>
     rw[hh (by rw[hb];rfl) hve];obtain⟨vals,ho,_⟩:=hr.row _ t k m cs hb;rcases ho.2 with⟨e,rfl⟩|⟨g,cap,cur,e,_⟩
     ·omega
     ·exact⟨_,_,_,e,rfl⟩
   ·cases h
  ·cases h
 ·cases h
theorem z0z{V:Nat->Value}{w:World}(hr:HRel P W H V w){p:PV}{b:Bool}{v:Value}(h:zlk H p=some b)(hp:Rp W.Z H V w p v):∃a,v=.pointer a/\a.isNone=b:=by
 unfold zlk at h;split at h
 ·cases h;cases hp;exact⟨_,rfl,rfl⟩
 ·cases h;cases hp;exact⟨_,rfl,rfl⟩
 ·obtain⟨cs,hl,rfl⟩:=wee.1 h;obtain⟨a1,a2⟩:=zh hl;cases hp with
  |pp _ _ _ _ hv hh=>
   obtain⟨g,_,rfl⟩:=hh a1 a2;exact⟨_,rfl,rfl⟩
 ·cases h
def zqm(op:BinOp)(o:Option Bool):Option PV:=match o,op with
 |some b,.eql=>some (.u (.bool b))
 |some b,.neq=>some (.u (.bool (!b)))
 |_,_=>none
def zwz(P:Program)(H:PHeap)(F:PFrame)(op:BinOp)(t:TypeId)(x y:Operand):Option PV:=
 match y with
 |.const (.slice none 0 0)=>if y7 P t then zqm op (zsg H (evP F x))else none
 |.const (.pointer none)=>if z4m P t then zqm op (zlk H (evP F x))else none
 |y=>yg P op t x y (evP F x) (evP F y)
def jr(P:Program)(H:PHeap)(F:PFrame)(o:Oper):Option PV:=
 match o.op with
 |.move x|.assign x=>some (evP F x)
 |.pick c a b=>match evP F c with
  |.u (.bool t)=>some (if t then evP F a else evP F b)
  |_=>none
 |.binOp op t x y _=>zwz P H F op t x y
 |.unOp op _ x=>unP P op (evP F x)
 |.convert s d x=>z5l P s d (evP F x)
 |.load t x=>yc P H t (evP F x)
 |.fieldAddr s x f=>fieldAddrP P H s f (evP F x)
 |.indexAddr t x i=>indexAddrP P H t (evP F x) (evP F i)
 |.index t x i=>zio P t (evP F x) (evP F i)
 |.field t x f=>zxu P t f (evP F x)
 |.slice t x lo hi none=>zeu P t (evP F x) (lo.map (evP F)) (hi.map (evP F))
 |.extract x i=>match evP F x with
  |.tup cs=>cs[i]?
  |_=>none
 |.build t parts=>zm2 P H t (parts.toList.map λx=>(x.1,evP F x.2))
 |.makeFunc f a b=>some (.fn f (a.toList.map (evP F)) (b.toList.map (evP F)))
 |.nilCheck x=>je1 H (evP F x)
 |.call c=>z87 P H F o.type c
 |_=>none
theorem zum{V:Nat->Value}{w:World}:∀{ps:List PV}{vs us:List Value},ps.mapM PV.val2=some us->RpL W.Z H V w ps vs->vs=us
 |[],vs,us,h,hr=>by
  have:=hr.1;simp at h this;subst h;exact wek this.symm
 |p::ps,[],us,h,hr=>by have:=hr.1;simp at this
 |p::ps,v::vs,us,h,hr=>by
  simp only[wgl,bind_pure_comp,Option.bind_eq_bind]at h;cases hc:p.val2 with
  |none=>rw[hc]at h;cases h
  |some u=>
   cases hm:ps.mapM PV.val2 with
   |none=>rw[hc,hm]at h;cases h
   |some m=>
    rw[hc,hm]at h;simp at h;subst h;have e1:vs=m:=zum hm ⟨by have:=hr.1;simpa using this,λi a b ha hb=>hr.2 (i+1) a b (by simpa using ha) (by simpa using hb)⟩;rw[(hr.2 0 p v rfl rfl).val2 hc,e1]
theorem RpL.eval{V:Nat->Value}{w:World}{a:Act}:∀(xs:List Operand),(∀x∈xs,Rp W.Z H V w (evP F x) (a.eval x))->RpL W.Z H V w (xs.map (evP F)) (xs.map a.eval):=λxs h=>⟨by simp,λi p v h1 h2=>by
 rw[web]at h1 h2;cases hx:xs[i]? with
 |none=>rw[hx]at h1;cases h1
 |some x=>
  rw[hx]at h1 h2;cases h1;cases h2;exact h x (wd7 hx)⟩
theorem zyz{o:Oper}{c:Call}{p:PV}(ho:o.op=.call c)(h:z87 P H F o.type c=some p):PQ P W o F H p:=by
 refine wae λV a w hr hx=>?_;rw[ho]at hx;obtain⟨callee,args,argTypes⟩:=c;unfold z87 at h;cases callee with
 |value f=>simp at h
 |invoke r m=>simp at h
 |builtin b=>
  have hargs:∀x∈args.toList,Rp W.Z H V w (evP F x) (a.eval x):=λx hx'=>hx x (by simp[Op.operands,Call.operands];simpa using hx');have hex:(execOp a.eval o)=builtin b argTypes o.type (args.map λ|.const _=>true|_=>false) (args.map a.eval):=by
   unfold execOp;simp only[ho];unfold resolve;simp only[pure_bind];rfl
  by_cases hlen:b=.len
  ·subst hlen;simp only at h;split at h
   ·rename_i x t h1 h2;have e1:args = #[x]:=by apply Array.ext';simpa using h1
    have e2:argTypes = #[t]:=by apply Array.ext';simpa using h2
    subst e1 e2;obtain⟨u,hu,hp⟩:=ja5 (ty:=o.type) hr (hargs x (by simp)) h;exact⟨u,by rw[hex];simp[builtin,hu],hp⟩
   ·cases h
  ·have h':zw7 P b argTypes o.type (args.toList.map (evP F))=some p:=by
    cases b<;>first|exact h|exact absurd rfl hlen
   unfold zw7 at h';cases hm:(args.toList.map (evP F)).mapM PV.val2 with
   |none=>rw[hm]at h';cases h'
   |some us=>
    rw[hm]at h';simp only at h';have hus:=zum hm (RpL.eval (F:=F) (a:=a) args.toList hargs);have harr:args.map a.eval=us.toArray:=by apply Array.ext';simpa using hus
    split at h'
    ·obtain⟨v,hv,rfl⟩:=wee.1 h';exact⟨v,by rw[hex];simp[builtin,harr,zbo hv w],Rp.ofV _ _ _ _ _⟩
    ·obtain⟨v,hv,rfl⟩:=wee.1 h';exact⟨v,by rw[hex];simp[builtin,harr,zbo hv w],Rp.ofV _ _ _ _ _⟩
    ·cases h'
theorem jh{o:Oper}{p:PV}(h:jr P H F o=some p):PQ P W o F H p:=by
 obtain⟨dst,op,type,pos,after,guard⟩:=o;cases op<;>simp only[jr]at h
 case move x=>
  cases h;exact wae λV a w hr hx=>⟨_,rfl,hx x (by simp[Op.operands])⟩
 case assign x=>
  cases h;exact wae λV a w hr hx=>⟨_,rfl,hx x (by simp[Op.operands])⟩
 case pick c a b=>
  split at h
  ·rename_i t ht;cases h;refine wae λV ac w hr hx=>?_;have hc:=hx c (by simp[Op.operands]);rw[ht]at hc;have hcv:ac.eval c=.bool t:=by generalize ac.eval c=q at hc;cases hc;rfl
   refine⟨if t then ac.eval a else ac.eval b,by simp[execOp,hcv,asBool],?_⟩;cases t
   ·exact hx b (by simp[Op.operands])
   ·exact hx a (by simp[Op.operands])
  ·cases h
 case binOp op t x y yt=>
  unfold zwz at h;split at h
  ·split at h
   ·rename_i ht;unfold zqm at h;unfold y7 at ht;split at ht
    ·rename_i e hu;have key:∀(b:Bool),zsg H (evP F x)=some b->∀(V:Nat->Value)(ac:Act)(w:World),HRel P W H V w->Rp W.Z H V w (evP F x) (ac.eval x)->(Op.equal t (ac.eval x) (.slice none 0 0)).run P w=.ok b w/\∃a m c,ac.eval x=.slice a m c:=by
      intro b hb V ac w hr hx;obtain⟨a,m,c,e1,e2⟩:=z0s hr hb hx;rw[e1];refine⟨?_,a,m,c,rfl⟩;subst e2;have hE:∀d,(Op.equalIn (d+1) t (.slice a m c) (.slice none 0 0)).run P w=.ok a.isNone w:=λd=>by
       cases a<;>simp[Op.equalIn,run_underlying hu]
      exact hE 9999
     split at h
     ·rename_i b hb;cases h;refine wae λV ac w hr hx=>?_;obtain⟨h1,a,m,c,h2⟩:=key b hb V ac w hr (hx x (by simp[Op.operands]));rw[h2]at h1;have hy:∀u,ac.eval (.const u)=u:=λ_=>rfl;exact⟨.bool b,by simp[execOp,h2,hy,eqGuard,binOp,h1],.u _⟩
     ·rename_i b hb;cases h;refine wae λV ac w hr hx=>?_;obtain⟨h1,a,m,c,h2⟩:=key b hb V ac w hr (hx x (by simp[Op.operands]));rw[h2]at h1;have hy:∀u,ac.eval (.const u)=u:=λ_=>rfl;exact⟨.bool (!b),by simp[execOp,h2,hy,eqGuard,binOp,h1],.u _⟩
     ·cases h
    ·cases ht
   ·cases h
  ·split at h
   ·rename_i ht;unfold zqm at h;unfold z4m at ht;split at ht
    ·rename_i e hu;have key:∀(b:Bool),zlk H (evP F x)=some b->∀(V:Nat->Value)(ac:Act)(w:World),HRel P W H V w->Rp W.Z H V w (evP F x) (ac.eval x)->(Op.equal t (ac.eval x) (.pointer none)).run P w=.ok b w/\∃a,ac.eval x=.pointer a:=by
      intro b hb V ac w hr hx;obtain⟨a,e1,e2⟩:=z0z hr hb hx;rw[e1];refine⟨?_,a,rfl⟩;subst e2;have hE:∀d,(Op.equalIn (d+1) t (.pointer a) (.pointer none)).run P w=.ok a.isNone w:=λd=>by
       cases a<;>simp[Op.equalIn,run_underlying hu]
      exact hE 9999
     split at h
     ·rename_i b hb;cases h;refine wae λV ac w hr hx=>?_;obtain⟨h1,a,h2⟩:=key b hb V ac w hr (hx x (by simp[Op.operands]));rw[h2]at h1;have hy:∀u,ac.eval (.const u)=u:=λ_=>rfl;exact⟨.bool b,by simp[execOp,h2,hy,eqGuard,binOp,h1],.u _⟩
     ·rename_i b hb;cases h;refine wae λV ac w hr hx=>?_;obtain⟨h1,a,h2⟩:=key b hb V ac w hr (hx x (by simp[Op.operands]));rw[h2]at h1;have hy:∀u,ac.eval (.const u)=u:=λ_=>rfl;exact⟨.bool (!b),by simp[execOp,h2,hy,eqGuard,binOp,h1],.u _⟩
     ·cases h
    ·cases ht
   ·cases h
  unfold yg at h;split at h
  ·rename_i a b ha hb;obtain⟨v,hv,rfl⟩:=wee.1 h;refine wae λV ac w hr hx=>⟨v,?_,Rp.ofV _ _ _ _ _⟩
   have h1:=(hx x (by simp[Op.operands])).val2 ha;have h2:=(hx y (by simp[Op.operands])).val2 hb;have h3:=zbo hv w;simp only[execOp,h1,h2];rw[Sem.run_bind,h3];rfl
  ·cases h
 case unOp op t x=>
  unfold unP at h;split at h
  ·rename_i a ha;obtain⟨v,hv,rfl⟩:=wee.1 h;refine wae λV ac w hr hx=>⟨v,?_,Rp.ofV _ _ _ _ _⟩
   have h1:=(hx x (by simp[Op.operands])).val2 ha;simp only[execOp,h1];rw[Sem.run_bind,zbo hv w];rfl
  ·cases h
 case convert s d x=>
  unfold z5l at h;split at h
  ·rename_i a ha;obtain⟨v,hv,rfl⟩:=wee.1 h;refine wae λV ac w hr hx=>⟨v,?_,Rp.ofV _ _ _ _ _⟩
   have h1:=(hx x (by simp[Op.operands])).val2 ha;simp only[execOp,h1];rw[Sem.run_bind,zbo hv w];rfl
  ·cases h
 case load t x=>
  refine wae λV ac w hr hx=>?_;obtain⟨u,hu,hp⟩:=znh hr (hx x (by simp[Op.operands])) h;exact⟨u,by simp[execOp,hu],hp⟩
 case fieldAddr s x f=>
  refine wae λV ac w hr hx=>?_;obtain⟨u,hu,hp⟩:=zqy (hx x (by simp[Op.operands])) h;exact⟨u,by simp[execOp,hu],hp⟩
 case indexAddr t x i=>
  refine wae λV ac w hr hx=>?_;obtain⟨u,hu,hp⟩:=zre hr (hx x (by simp[Op.operands])) (hx i (by simp[Op.operands])) h;exact⟨u,by simp[execOp,hu],hp⟩
 case index t x i=>
  refine wae λV ac w hr hx=>?_;obtain⟨u,hu,hp⟩:=z3q (hx x (by simp[Op.operands])) (hx i (by simp[Op.operands])) h;exact⟨u,by simp[execOp,hu],hp⟩
 case field t x f=>
  refine wae λV ac w hr hx=>?_;obtain⟨u,hu,hp⟩:=z30 (hx x (by simp[Op.operands])) h;exact⟨u,by simp[execOp,hu],hp⟩
 case slice t x lo hi mx=>
  cases mx with
  |some m=>simp at h
  |none=>
   refine wae λV ac w hr hx=>?_;obtain⟨u,hu,hp⟩:=z29 (vl:=lo.map ac.eval) (vh:=hi.map ac.eval) (hx x (by simp[Op.operands])) (λp v h1 h2=>by
    cases lo with
    |none=>cases h1
    |some l=>cases h1;cases h2;exact hx l (by simp[Op.operands])) (by simp) (λp v h1 h2=>by
    cases hi with
    |none=>cases h1
    |some l=>cases h1;cases h2;exact hx l (by simp[Op.operands])) (by simp) h
   exact⟨u,by simp[execOp,hu],hp⟩
 case extract x i=>
  split at h
  ·rename_i cs hcs;refine wae λV ac w hr hx=>?_;have h1:=hx x (by simp[Op.operands]);rw[hcs]at h1;generalize hq:ac.eval x=q at h1;cases h1 with
   |tup _ vs hl hc=>
    have hlt:=(wd5.1 h).1;have hv:=wet (xs:=vs) (show i<vs.size by omega);exact⟨vs[i]'(by omega),by simp[execOp,hq,Instr.extract,hv],hc i p _ h hv⟩
  ·cases h
 case build t parts=>
  refine wae λV ac w hr hx=>?_;obtain⟨u,hu,hp⟩:=z2r (vs:=parts.map λ(x:Nat×Operand)=>(x.1,ac.eval x.2)) hr ⟨by simp,λi p v h1 h2=>by
   rw[web]at h1;rw[Array.toList_map,web]at h2;cases hi:parts.toList[i]? with
   |none=>rw[hi]at h1;cases h1
   |some y=>
    rw[hi]at h1 h2;cases h1;cases h2;refine⟨rfl,hx y.2 ?_⟩;simp only[Op.operands,List.mem_toArray,wef];exact⟨y,wd7 hi,rfl⟩⟩ h
  exact⟨u,by simp[execOp,hu],hp⟩
 case makeFunc f a b=>
  cases h;refine wae λV ac w hr hx=>⟨.func f (a.map ac.eval) (b.map ac.eval),by simp[execOp,Instr.makeFunc],?_⟩
  have h1:=RpL.eval (W:=W) (H:=H) (V:=V) (w:=w) (F:=F) (a:=ac) a.toList λx hx'=>hx x (by simp[Op.operands];left;simpa using hx');have h2:=RpL.eval (W:=W) (H:=H) (V:=V) (w:=w) (F:=F) (a:=ac) b.toList λx hx'=>hx x (by simp[Op.operands];right;simpa using hx');exact .fn f _ _ _ _ (by simp) (by simp) (λi p v h3 h4=>h1.2 i p v h3 (by simpa using h4)) (λi p v h3 h4=>h2.2 i p v h3 (by simpa using h4))
 case nilCheck x=>
  refine wae λV ac w hr hx=>?_;have h1:=hx x (by simp[Op.operands]);generalize hq:evP F x=q at h h1;unfold je1 at h;split at h
  ·rename_i id off ver;cases hl:jl H id ver with
   |none=>rw[hl]at h;cases h
   |some cs=>
    rw[hl]at h;cases h;obtain⟨a1,a2⟩:=zh hl;generalize hv:ac.eval x=v at h1;cases h1 with
    |pp _ _ _ _ hv' hh=>
     obtain⟨g,hg,rfl⟩:=hh a1 a2;exact⟨.pointer (some ⟨g,off,none⟩),by simp[execOp,hv],.pp _ _ _ _ hv' hh⟩
  ·cases h;generalize hv:ac.eval x=v at h1;cases h1 with
   |rp _ b o g hz hb h1 h2=>exact⟨.pointer (some ⟨b,o,none⟩),by simp[execOp,hv],.rp _ b o g hz hb h1 h2⟩
  ·cases h;generalize hv:ac.eval x=v at h1;cases h1 with
   |fn _ _ _ va vb hla hlb ha hb=>exact⟨.func _ va vb,by simp[execOp,hv],.fn _ _ _ va vb hla hlb ha hb⟩
  ·cases h
 case call c=>exact zyz rfl h
 all_goals cases h
structure Turn(W:Env)(H:PHeap)(V:Nat->Value)(w:World)(d:Nat)(b':zcb)(v0:Value)(w':World):Prop where
 below:Below W.w.heap.size W.w w'
 size:w.heap.size<=w'.heap.size
 block:∀b,b<w.heap.size->¬((H d).body.isSome=true/\qc (V d)=some b)->w'.heap[b]?=w.heap[b]?
 own:∀g,qc v0=some g->w.heap.size<=g\/((H d).body.isSome=true/\qc (V d)=some g)
 ver:(H d).ver<b'.ver\/(b'.ver=(H d).ver/\v0=V d/\(H d).body.isSome=true)
def yf(V:Nat->Value)(d:Nat)(v:Value):Nat->Value:=λi=>if i=d then v else V i
section
variable{V:Nat → Value}{w w' : World}{d:Nat}{b' : zcb}{v0:Value}
theorem Turn.rp(ht:Turn W H V w d b' v0 w'){p:PV}{v:Value}(h:Rp W.Z H V w p v):Rp W.Z (H.set d b') (yf V d v0) w' p v:=by
 refine h.mono (λb hz hb=>⟨λhz'=>?_,Nat.lt_of_lt_of_le hb ht.size,ht.block b hb λhd=>hz (.inr ⟨d,hd.1,hd.2⟩)⟩) (weh _) (λid=>?_) (λid ver hv h1 h2=>?_)
 ·rcases hz' with hz'|⟨id,h1,h2⟩
  ·exact hz (.inl hz')
  ·by_cases e:id=d
   ·subst e;simp only[yf,if_true]at h2;rcases ht.own b h2 with h3|h3
    ·omega
    ·exact hz (.inr ⟨_,h3.1,h3.2⟩)
   ·simp only[yf,if_neg e]at h2;simp only[PHeap.set,if_neg e]at h1;exact hz (.inr ⟨id,h1,h2⟩)
 ·by_cases e:id=d
  ·subst e;simp only[PHeap.set,if_true];rcases ht.ver with h|⟨h,_⟩<;>omega
  ·simp[PHeap.set,e]
 ·by_cases e:id=d
  ·subst e;simp only[PHeap.set,if_true]at h1 h2;rcases ht.ver with h|⟨h,h3,h4⟩
   ·omega
   ·exact⟨h4,by omega,by simp[yf,h3]⟩
  ·simp only[PHeap.set,if_neg e]at h1 h2;exact⟨h1,h2,by simp[yf,e]⟩
def zwg(W:Env)(H:PHeap)(V:Nat->Value)(w:World)(v:Value):PBody->Prop
 |.row t k n cs=>∃vals,w.ownsRow W.w.heap.size t k v n vals/\RpL W.Z H V w cs vals/\∀v∈vals,v.oneCell'=true
 |.box t cs=>∃g arr,v=.pointer (some ⟨g,0,none⟩)/\W.w.heap.size<=g/\w.heap[g]?=some (.cells arr t (0,0))/\RpL W.Z H V w cs arr.toList/\∀v∈arr.toList,v.oneCell'=true
 |.raw p cs φ=>∃g o vs,v=rawV p g/\W.w.heap.size<=g/\w.heap[g]?=some o/\φ g o vs/\RpL W.Z H V w cs vs
theorem Turn.heap(ht:Turn W H V w d b' v0 w')(hr:HRel P W H V w)(hb:∀bd,b'.body=some bd->zwg W (H.set d b') (yf V d v0) w' v0 bd):HRel P W (H.set d b') (yf V d v0) w':=by
 have keep:∀id g,id≠d->(H id).body.isSome=true->qc (V id)=some g->w'.heap[g]?=w.heap[g]?:=λid g e hs hg=>by
  refine ht.block g (hr.own_lt hs hg).2 λhd=>e (hr.apart id d g hs hd.1 hg hd.2)
 refine⟨ht.below,λid t k n cs hbd=>?_,λid t cs hbd=>?_,λid p cs φ hbd=>?_,λi=>ht.rp (hr.ghost i),λid id' g h1 h2 h3 h4=>?_,λb hz=>Nat.lt_of_lt_of_le (hr.zlt b hz) ht.size,λid g h1 h2 hz=>?_⟩
 ·by_cases e:id=d
  ·subst e;simp only[PHeap.set,if_true]at hbd;have:=hb _ hbd;simp only[yf,if_true];exact this
  ·simp only[PHeap.set,if_neg e]at hbd;obtain⟨vals,ho,hR,h1⟩:=hr.row id t k n cs hbd;refine⟨vals,?_,hR.mono λp v hp=>ht.rp hp,h1⟩;simp only[yf,if_neg e];refine⟨ho.1,?_⟩;rcases ho.2 with h2|⟨g,cap,cur,hv,hg,hh,r⟩
   ·exact .inl h2
   ·exact .inr ⟨g,cap,cur,hv,hg,by rw[keep id g e (by rw[hbd];rfl) (by rw[hv];rfl)];exact hh,r⟩
 ·by_cases e:id=d
  ·subst e;simp only[PHeap.set,if_true]at hbd;have:=hb _ hbd;simp only[yf,if_true];exact this
  ·simp only[PHeap.set,if_neg e]at hbd;obtain⟨g,arr,hv,hg,hh,hR,h1⟩:=hr.box id t cs hbd;refine⟨g,arr,by simp only[yf,if_neg e];exact hv,hg,by rw[keep id g e (by rw[hbd];rfl) (by rw[hv];rfl)];exact hh,hR.mono λp v hp=>ht.rp hp,h1⟩
 ·by_cases e:id=d
  ·subst e;simp only[PHeap.set,if_true]at hbd;have:=hb _ hbd;simp only[yf,if_true];exact this
  ·simp only[PHeap.set,if_neg e]at hbd;obtain⟨g,o,vs,hv,hg,hh,he,hR⟩:=hr.map id p cs φ hbd;refine⟨g,o,vs,by simp only[yf,if_neg e];exact hv,hg,by rw[keep id g e (by rw[hbd];rfl) (by rw[hv,zki])];exact hh,he,hR.mono λp v hp=>ht.rp hp⟩
 ·have own:∀g,qc v0=some g->∀id,id≠d->(H id).body.isSome=true->qc (V id)=some g->False:=λg hg id e hs hg2=>by
   rcases ht.own g hg with h5|h5
   ·have:=(hr.own_lt hs hg2).2;omega
   ·exact e (hr.apart id d g hs h5.1 hg2 h5.2)
  by_cases e:id=d
  ·by_cases e':id'=d
   ·rw[e,e']
   ·subst e;simp only[yf,if_true]at h3;simp only[yf,if_neg e']at h4;simp only[PHeap.set,if_neg e']at h2;exact(own g h3 id' e' h2 h4).elim
  ·by_cases e':id'=d
   ·subst e';simp only[yf,if_true]at h4;simp only[yf,if_neg e]at h3;simp only[PHeap.set,if_neg e]at h1;exact(own g h4 id e h1 h3).elim
   ·simp only[yf,if_neg e]at h3;simp only[yf,if_neg e']at h4;simp only[PHeap.set,if_neg e]at h1;simp only[PHeap.set,if_neg e']at h2;exact hr.apart id id' g h1 h2 h3 h4
 ·by_cases e:id=d
  ·subst e;simp only[yf,if_true]at h2;rcases ht.own g h2 with h3|h3
   ·have:=hr.zlt g hz;omega
   ·exact hr.nz _ g h3.1 h3.2 hz
  ·simp only[yf,if_neg e]at h2;simp only[PHeap.set,if_neg e]at h1;exact hr.nz id g h1 h2 hz
end
end
def V0:Nat->Value:=λ_=>undef
inductive NoP:PV->Prop
 |u (v:Value):NoP (.u v)
 |agg (cs:List PV) (h:∀c∈cs,NoP c):NoP (.agg cs)
 |tup (cs:List PV) (h:∀c∈cs,NoP c):NoP (.tup cs)
 |sl (k:Nat) (xs:List PV) (h:∀c∈xs,NoP c):NoP (.sl k xs)
 |fr (t:TypeId) (k:Nat) (xs:List PV) (h:∀c∈xs,NoP c):NoP (.fr t k xs)
 |rp (cs:List PV) (h:∀c∈cs,NoP c):NoP (.rp cs)
 |fn (f:Fn) (a b:List PV) (ha:∀c∈a,NoP c) (hb:∀c∈b,NoP c):NoP (.fn f a b)
theorem NoP.cell{p c:PV}(h:NoP p)(hc:c∈p.cells):NoP c:=by
 cases h with
 |agg cs h=>exact h c hc
 |u v=>simp[PV.cells]at hc;subst hc;exact .u v
 |tup cs h=>simp[PV.cells]at hc;subst hc;exact .tup cs h
 |sl k xs h=>simp[PV.cells]at hc;subst hc;exact .sl k xs h
 |fr t k xs h=>simp[PV.cells]at hc;subst hc;exact .fr t k xs h
 |rp cs h=>simp[PV.cells]at hc;subst hc;exact .rp cs h
 |fn f a b ha hb=>simp[PV.cells]at hc;subst hc;exact .fn f a b ha hb
theorem Rp.noP{Z Z':ZM}{H H':PHeap}{V V':Nat->Value}{w:World}{p:PV}{v:Value}(h:Rp Z H V w p v)(hp:NoP p)(hz:∀b,b<w.heap.size->¬PZ Z H V b->¬PZ Z' H' V' b)(hm:Z'.m<=Z.m:=by exact weh _):Rp Z' H' V' w p v:=by
 induction h with
 |u v=>exact .u v
 |unk v=>cases hp
 |agg cs vs hl h ih=>
  cases hp with
  |agg _ hc=>exact .agg cs vs hl λi p v h1 h2=>ih i p v h1 h2 (hc p (wd7 h1))
 |tup cs vs hl h ih=>
  cases hp with
  |tup _ hc=>exact .tup cs vs hl λi p v h1 h2=>ih i p v h1 h2 (hc p (wd7 h1))
 |nil k a c=>exact .nil k a c
 |sl k xs b o c g hu hlen hzz hb h1 h2 ih=>
  cases hp with
  |sl _ _ hc=>exact .sl k xs b o c g hu hlen (hz b hb hzz) hb h1 λi p hi=>ih i p hi (by
    obtain⟨y,hy,hpy⟩:=wfe.1 (wd7 hi);exact(hc y hy).cell hpy)
 |fr t k xs v vals hu ho hzz h1 h2 ih=>
  cases hp with
  |fr _ _ _ hc=>exact .fr t k xs v vals hu (Y9 ho hm λ_ _ _=>rfl) (λb hb=>hz b (zel ho hb).2 (hzz b hb)) h1 λi p u hi hj=>ih i p u hi hj (by
    obtain⟨y,hy,hpy⟩:=wfe.1 (wd7 hi);exact(hc y hy).cell hpy)
 |rp cs b o g hzz hb h1 h2 ih=>
  cases hp with
  |rp _ hc=>exact .rp cs b o g (hz b hb hzz) hb h1 λi p hi=>ih i p hi (hc p (wd7 hi))
 |ps id ver v hv h=>cases hp
 |qs id off k ver v hv h=>cases hp
 |pp id off ver v hv h=>cases hp
 |fn f a b va vb hla hlb ha hb iha ihb=>
  cases hp with
  |fn _ _ _ ca cb=>exact .fn f a b va vb hla hlb (λi p v h1 h2=>iha i p v h1 h2 (ca p (wd7 h1))) (λi p v h1 h2=>ihb i p v h1 h2 (cb p (wd7 h1)))
inductive Sc:PV->Prop
 |u (v:Value):Sc (.u v)
 |agg (cs:List PV) (h:∀c∈cs,Sc c):Sc (.agg cs)
 |tup (cs:List PV) (h:∀c∈cs,Sc c):Sc (.tup cs)
theorem Rp.sc{Z Z':ZM}{H H':PHeap}{V V':Nat->Value}{w w':World}{p:PV}{v:Value}(h:Rp Z H V w p v)(hp:Sc p):Rp Z' H' V' w' p v:=by
 induction h with
 |u v=>exact .u v
 |agg cs vs hl h ih=>
  cases hp with
  |agg _ hc=>exact .agg cs vs hl λi p v h1 h2=>ih i p v h1 h2 (hc p (wd7 h1))
 |tup cs vs hl h ih=>
  cases hp with
  |tup _ hc=>exact .tup cs vs hl λi p v h1 h2=>ih i p v h1 h2 (hc p (wd7 h1))
 |nil k a c=>cases hp
 |_=>cases hp
def View(H:PHeap)(p q:PV):Prop:=∀(P:Program)(W:Env)(V:Nat->Value)(w:World),HRel P W H V w->∀v,Rp W.Z H V w p v->Rp W.Z PHeap.empty V0 w q v
theorem zi{Z:ZM}{b:Nat}:PZ Z PHeap.empty V0 b↔Z b:=by
 constructor
 ·rintro(h|⟨id,h,_⟩)
  ·exact h
  ·simp[PHeap.empty]at h
 ·exact .inl
theorem View.noP{H:PHeap}{p:PV}(h:NoP p):View H p p:=λP W V w hr v hv=>hv.noP h λb _ hz hz'=>hz (.inl (zi.1 hz'))
theorem View.nil{H:PHeap}(k:Nat)(a:Option Addr)(c:Nat):View H (.u (.slice a 0 c)) (.sl k []):=λP W V w hr v hv=>by cases hv;exact .nil _ _ _
theorem View.agg{H:PHeap}{cs ds:List PV}(hl:cs.length=ds.length)(h:∀(i:Nat)(p q:PV),cs[i]?=some p->ds[i]?=some q->View H p q):View H (.agg cs) (.agg ds):=λP W V w hr v hv=>by
 cases hv with
 |agg _ vs hl2 hc=>
  refine .agg _ _ (by omega) λi q v h1 h2=>?_;have hlt:=(wd5.1 h1).1;have h3:=wd2 (l:=cs) (i:=i) (by omega);exact h i _ _ h3 h1 P W V w hr v (hc i _ v h3 h2)
theorem View.tup{H:PHeap}{cs ds:List PV}(hl:cs.length=ds.length)(h:∀(i:Nat)(p q:PV),cs[i]?=some p->ds[i]?=some q->View H p q):View H (.tup cs) (.tup ds):=λP W V w hr v hv=>by
 cases hv with
 |tup _ vs hl2 hc=>
  refine .tup _ _ (by omega) λi q v h1 h2=>?_;have hlt:=(wd5.1 h1).1;have h3:=wd2 (l:=cs) (i:=i) (by omega);exact h i _ _ h3 h1 P W V w hr v (hc i _ v h3 h2)
theorem wbh{P:Program}{W:Env}{H:PHeap}{V:Nat->Value}{w:World}(hr:HRel P W H V w){id b:Nat}(hs:(H id).body.isSome=true)(hb:qc (V id)=some b):¬W.Z b:=hr.nz id b hs hb
theorem View.row{H:PHeap}{id ver:Nat}{t:TypeId}{k n:Nat}{cs:List PV}(hl:qm H id ver=some (t,k,n,cs))(xs:List PV)(hn:xs.length=n)(hu:∀y∈xs,y.cells.length=k)
  (h:∀(i:Nat)(p q:PV),cs[i]?=some p->(xs.flatMap PV.cells)[i]?=some q->View H p q):View H (.ps id ver) (.sl k xs):=λP W V w hr v hv=>by
 obtain⟨hb,hve⟩:=vy hl;cases hv with
 |ps _ _ _ hvv hh=>
  have e:=hh (by rw[hb];rfl) hve;subst e;obtain⟨vals,ho,hR,_⟩:=hr.row id t k n cs hb;have hlen:=ho.1;have hflat:(xs.flatMap PV.cells).length=n*k:=by
   have:∀(ys:List PV),(∀y∈ys,y.cells.length=k)->(ys.flatMap PV.cells).length=ys.length*k:=by
    intro ys;induction ys with
    |nil=>intro _;simp
    |cons y ys ih=>intro hy;rw[wex,weo,ih (λz hz=>hy z (by simp[hz])),hy y (by simp),we2,wfr];omega
   rw[this xs hu,hn]
  rcases ho.2 with⟨e,hn0⟩|⟨g,cap,cur,e,hg,hh2,hcap,_,_,htake⟩
  ·have hx:xs=[]:=wek (by omega);rw[e,hx];exact .nil _ _ _
  ·have hblk:qc (V id)=some g:=by rw[e];rfl
   have hz:¬PZ W.Z PHeap.empty V0 g:=λhz=>wbh hr (by rw[hb];rfl) hblk (zi.1 hz);have hcell:∀(i:Nat)(q:PV),(xs.flatMap PV.cells)[i]?=some q->∃u,vals[i]?=some u/\w.cell? ⟨g,0+i,none⟩=some u/\Rp W.Z PHeap.empty V0 w q u:=λi q hq=>by
    have hlt:=(wd5.1 hq).1;have hi1:i<vals.length:=by omega
    have hi2:i<cs.length:=by rw[hR.1];exact hi1
    refine⟨vals[i],wd2 hi1,?_,h i _ q (wd2 hi2) hq P W V w hr _ (hR.2 i _ _ (wd2 hi2) (wd2 hi1))⟩;have:=ho.cells (g:=g) (by rw[e];rfl) i _ (wd2 hi1);rwa [zq]at this
   have:=Rp.sl (Z:=W.Z) (H:=PHeap.empty) (V:=V0) (w:=w) k xs g 0 cap (λi=>(vals[i]?).getD undef) hu (by omega) hz (wew.1 hh2).1 (λi q hq=>by
    obtain⟨u,h1,h2,_⟩:=hcell i q hq;rw[h1];exact h2) (λi q hq=>by
    obtain⟨u,h1,_,h3⟩:=hcell i q hq;simp only[h1,wfd];exact h3)
   rw[hn]at this;rw[e];exact this
theorem wcb{H:PHeap}{id ver:Nat}{t:TypeId}{n:Nat}{cs:List PV}(hl:qm H id ver=some (t,1,n,cs))(hn:cs.length=n)(h:∀c∈cs,NoP c/\c.cells=[c]):View H (.ps id ver) (.sl 1 cs):=by
 have e:cs.flatMap PV.cells=cs:=by
  clear hl hn;induction cs with
  |nil=>rfl
  |cons c cs ih=>rw[wex,ih (λd hd=>h d (by simp[hd])),(h c (by simp)).2];rfl
 refine View.row hl cs hn (λy hy=>by rw[(h y hy).2];rfl) λi p q h1 h2=>?_;rw[e,h1]at h2;cases h2;exact View.noP (h p (wd7 h1)).1
theorem View.pp{H:PHeap}{id off ver:Nat}{cs ds:List PV}(hl:jl H id ver=some cs)(hd:cs.length=off+ds.length)(h:∀(i:Nat)(p q:PV),cs[off+i]?=some p->ds[i]?=some q->View H p q):View H (.pp id off ver) (.rp ds):=λP W V w hr v hv=>by
 obtain⟨a1,a2⟩:=zh hl;cases hv with
 |pp _ _ _ _ hvv hh=>
  obtain⟨g,hg,rfl⟩:=hh a1 a2;obtain⟨_,_,hc⟩:=z0d hr hl hg;have hcell:∀(i:Nat)(q:PV),ds[i]?=some q->∃u,w.cell? ⟨g,off+i,none⟩=some u/\Rp W.Z PHeap.empty V0 w q u:=λi q hq=>by
   have hlt:=(wd5.1 hq).1;have h3:=wd2 (l:=cs) (i:=off+i) (by omega);obtain⟨u,hu,hp⟩:=hc _ _ h3;exact⟨u,hu,h i _ q h3 hq P W V w hr u hp⟩
  refine .rp ds g off (λi=>(w.cell? ⟨g,off+i,none⟩).getD undef) (λhz=>wbh hr a1 hg (zi.1 hz)) (hr.own_lt a1 hg).2 (λi q hq=>?_) (λi q hq=>?_)
  ·obtain⟨u,hu,_⟩:=hcell i q hq;simp[hu]
  ·obtain⟨u,hu,hp⟩:=hcell i q hq;simp only[hu,wfd];exact hp
def ViewL(H:PHeap)(ps qs:List PV):Prop:=ps.length=qs.length/\∀(i:Nat)(p q:PV),ps[i]?=some p->qs[i]?=some q->View H p q
theorem ViewL.nil(H:PHeap):ViewL H [] []:=⟨rfl,λi p q h=>by simp at h⟩
theorem ViewL.cons{H:PHeap}{p q:PV}{ps qs:List PV}(h:View H p q)(hs:ViewL H ps qs):ViewL H (p::ps) (q::qs):=⟨by simp[hs.1],λi a b h1 h2=>by
 cases i with
 |zero=>simp at h1 h2;subst h1 h2;exact h
 |succ i=>exact hs.2 i a b (by simpa using h1) (by simpa using h2)⟩
def PCall(P:Program)(f:FuncId)(as:List PV)(R:PV->Prop):Prop:=
 ∀(Z:ZM)(w:World)(vs:List Value),(∀b,Z b->b<w.heap.size)->Z.m<=w.heap.size->RpL Z PHeap.empty V0 w as vs ->
  Calls P f vs.toArray w (λe w'=>∃v p,e=.returned v/\R p/\NoP p/\Rp Z PHeap.empty V0 w' p v/\Below w.heap.size w w')
def zpp(P:Program)(f:FuncId)(as:List PV)(t:TypeId)(k:Nat)(R:Nat->List Value->Prop):Prop:=
 ∀(w:World)(vs:List Value),RpL ⟨λ_=>False,0⟩ PHeap.empty V0 w as vs ->
  Calls P f vs.toArray w (λe w'=>∃v n us,e=.returned v/\R n us/\w'.ownsRow w.heap.size t k v n us/\(∀u∈us,u.oneCell'=true)/\Below w.heap.size w w')
section
variable{P:Program}{W:Env}{n:Nat}{H:PHeap}{F:PFrame}
def PE(P:Program)(W:Env)(n:Nat)(o:Oper)(F:PFrame)(H:PHeap)(k:PV->PHeap->Prop):Prop:=
 ∀(V:Nat->Value)(a:Act)(w:World),Rel P W n F H V a w->o.wp P a w (λa' w'=>∃p H' V',k p H'/\Rel P W n (F.put o.dst p) H' V' a' w') (λ_ _ _=>False)
theorem wak{o:Oper}{p:PV}{k:PV->PHeap->Prop}(hd:jo n o)(h:PQ P W o F H p)(hk:k p H):PE P W n o F H k:=λV a w hr=>by
 have:=h V a w hr.heap λt _=>hr.slot t;exact Oper.wp_mono (λa' w'⟨v,e,hv,hb⟩=>⟨p,H,V,hk,by rw[e];exact hr.put hb o.dst hd hv⟩) this
theorem zc0{o:Oper}{a:Act}{w:World}{f:FuncId}{args:Array Value}{K:Act->World->Prop}{Q:Exit->Act->World->Prop}(he:(execOp a.eval o).run P w=.ok (.enter f args) w)(hc:Calls P f args w (λe w'=>∃v,e=.returned v/\K (a.put o.dst v) w')):o.wp P a w K Q:=by
 unfold Oper.wp;rw[he];exact hc.mono λe w'⟨v,h1,h2⟩=>by subst h1;exact h2
def yr(F:PFrame)(c:Call):Option (FuncId×List PV):=
 match c.callee with
 |.value x=>
  match evP F x with
  |.fn (.func f) a b=>some (f,a++c.args.toList.map (evP F)++b)
  |_=>none
 |_=>none
def yx(P:Program)(f:FuncId):Bool:=match P.funcs[f]? with
 | some fn => fn.body.isSome && !(fn.name == "runtime.NumGoroutine")
 |none=>false
theorem Qz{V:Nat->Value}{a:Act}{w:World}{o:Oper}{c:Call}(ho:o.op=.call c){f:FuncId}{as:List PV}(ht:yr F c=some (f,as))(hf:yx P f=true)(hx:∀x∈o.op.operands,Rp W.Z H V w (evP F x) (a.eval x)):
  ∃vs:List Value,(execOp a.eval o).run P w=.ok (.enter f vs.toArray) w/\RpL W.Z H V w as vs:=by
 obtain⟨callee,args,argTypes⟩:=c;rw[ho]at hx;unfold yr at ht;cases callee with
 |builtin b=>cases ht
 |invoke r m=>cases ht
 |value x=>
  simp only at ht;split at ht
  ·rename_i g ca cb he;cases ht;have h1:=hx x (by simp[Op.operands,Call.operands]);have h2:=RpL.eval (F:=F) (a:=a) args.toList λy hy=>hx y (by simp[Op.operands,Call.operands];right;simpa using hy);rw[he]at h1;generalize hv:a.eval x=v at h1;cases h1 with
   |fn _ _ _ va vb hla hlb ha hb=>
    refine⟨va.toList++args.toList.map a.eval++vb.toList,?_,?_⟩
    ·unfold yx at hf;split at hf
     ·rename_i fn hfn;simp only[wd8,wg5]at hf;have hb:fn.body.isNone=false:=by cases hh:fn.body<;>simp_all
      simp only[execOp,ho,resolve,hv,Deferred.ofValue,Sem.run_bind,Sem.run_pure,Result.andThen_ok,invoke,callFunc,run_program,hfn,hf.2,hb];simp
     ·cases hf
    ·have l1:RpL W.Z H V w ca va.toList:=⟨by simpa using hla,λi p v h3 h4=>ha i p v h3 (by simpa using h4)⟩
     have l2:RpL W.Z H V w cb vb.toList:=⟨by simpa using hlb,λi p v h3 h4=>hb i p v h3 (by simpa using h4)⟩
     have app:∀{a b:List PV}{x y:List Value},RpL W.Z H V w a x->RpL W.Z H V w b y->RpL W.Z H V w (a++b) (x++y):=λ{a b x y}h1 h2=>⟨by simp[h1.1,h2.1],λi p v h3 h4=>by
      by_cases hi:i<a.length
      ·rw[weg hi]at h3;rw[weg (by rw[<- h1.1];exact hi)]at h4;exact h1.2 i p v h3 h4
      ·rw[wei (by omega)]at h3;rw[wei (by rw[<- h1.1];omega),<- h1.1]at h4;exact h2.2 _ p v h3 h4⟩
     exact app (app l1 h2) l2
  ·cases ht
theorem RpL.view{V:Nat->Value}{w:World}(hr:HRel P W H V w){ps qs:List PV}{vs:List Value}(h:RpL W.Z H V w ps vs)(hv:ViewL H ps qs):RpL W.Z PHeap.empty V0 w qs vs:=⟨by rw[<- hv.1];exact h.1,λi q v h1 h2=>by
 have hlt:=(wd5.1 h1).1;have h3:=wd2 (l:=ps) (i:=i) (by have:=hv.1;omega);exact hv.2 i _ q h3 h1 P W V w hr v (h.2 i _ v h3 h2)⟩
theorem wbe{V:Nat->Value}{w:World}(hr:HRel P W H V w):∀b,W.Z b->b<w.heap.size:=hr.zlt
theorem wbq{V:Nat->Value}{w:World}(hr:HRel P W H V w):W.Z.m<=w.heap.size:=wfn W.hm hr.below.size
theorem wdt{o:Oper}{c:Call}{p0:PV}{as qs:List PV}{f:FuncId}(ho:o.op=.call c)(ht:yr F c=some (f,as))(hf:yx P f=true)(hv:ViewL H as qs)(hc:PCall P f qs (· = p0))(hs:Sc p0):PQ P W o F H p0:=λV a w hr hx=>by
 obtain⟨vs,he,hR⟩:=Qz (P:=P) (W:=W) (H:=H) (V:=V) (a:=a) (w:=w) ho ht hf λx hx'=>Rp.eval (P:=P) x λt ht=>hx t (by rw[<- ht];exact hx');exact zc0 he ((hc W.Z w vs (wbe hr) (wbq hr) (hR.view hr hv)).mono λe w'⟨v,p,h1,h2,_,h3,hb⟩=>⟨v,h1,v,rfl,by subst h2;exact h3.sc hs,hb⟩)
theorem wbv{o:Oper}{c:Call}{p0:PV}{as qs:List PV}{f:FuncId}(ho:o.op=.call c)(ht:yr F c=some (f,as))(hf:yx P f=true)(hv:ViewL PHeap.empty as qs)(hn:∀p∈as,NoP p)(hc:PCall P f qs (· = p0)):PQ P W o F H p0:=λV a w hr hx=>by
 obtain⟨vs,he,hR⟩:=Qz (P:=P) (W:=W) (H:=H) (V:=V) (a:=a) (w:=w) ho ht hf λx hx'=>Rp.eval (P:=P) x λt ht=>hx t (by rw[<- ht];exact hx');have hlt:∀b,PZ W.Z H V b->b<w.heap.size:=λb hb=>by
  rcases hb with hb|⟨id,h1,h2⟩
  ·exact wbe hr b hb
  ·exact(hr.own_lt h1 h2).2
 have hR2:RpL ⟨PZ W.Z H V,W.Z.m⟩ PHeap.empty V0 w as vs:=⟨hR.1,λi p v h1 h2=>(hR.2 i p v h1 h2).noP (hn p (wd7 h1)) λb _ hz hz'=>hz (zi.1 hz')⟩
 have hR3:RpL ⟨PZ W.Z H V,W.Z.m⟩ PHeap.empty V0 w qs vs:=RpL.view (P:=P) (W:={ w:=w,Z:=⟨PZ W.Z H V,W.Z.m⟩,hm:=wbq hr }) (V:=V0) ⟨Below.refl _ _,λid t k n cs h=>by simp[PHeap.empty]at h,λid t cs h=>by simp[PHeap.empty]at h,λid p cs φ h=>by simp[PHeap.empty]at h,λi=> .unk _,λid id' g h=>by simp[PHeap.empty]at h,hlt,λid b h=>by simp[PHeap.empty]at h⟩ hR2 hv;exact zc0 he ((hc ⟨PZ W.Z H V,W.Z.m⟩ w vs hlt (wbq hr) hR3).mono λe w'⟨v,p,h1,h2,hnp,h3,hb⟩=>⟨v,h1,v,rfl,by subst h2;exact h3.noP hnp λb _ hz hz'=>hz (zi.2 hz'),hb⟩)
theorem wdw{o:Oper}{c:Call}{as qs:List PV}{f:FuncId}{R:PV->Prop}{k:PV->PHeap->Prop}(hd:jo n o)(ho:o.op=.call c)(ht:yr F c=some (f,as))(hf:yx P f=true)(hv:ViewL PHeap.empty as qs)(hn:∀p∈as,NoP p)(hc:PCall P f qs R)(hk:∀p,R p->k p H):PE P W n o F H k:=λV a w hr=>by
 obtain⟨vs,he,hR⟩:=Qz (P:=P) (W:=W) (H:=H) (V:=V) (a:=a) (w:=w) ho ht hf λx hx'=>Rp.eval (P:=P) x λt ht=>hr.slot t;have hlt:∀b,PZ W.Z H V b->b<w.heap.size:=λb hb=>by
  rcases hb with hb|⟨id,h1,h2⟩
  ·exact wbe hr.heap b hb
  ·exact(hr.heap.own_lt h1 h2).2
 have hR2:RpL ⟨PZ W.Z H V,W.Z.m⟩ PHeap.empty V0 w as vs:=⟨hR.1,λi p v h1 h2=>(hR.2 i p v h1 h2).noP (hn p (wd7 h1)) λb _ hz hz'=>hz (zi.1 hz')⟩
 have hR3:RpL ⟨PZ W.Z H V,W.Z.m⟩ PHeap.empty V0 w qs vs:=RpL.view (P:=P) (W:={ w:=w,Z:=⟨PZ W.Z H V,W.Z.m⟩,hm:=wbq hr.heap }) (V:=V0) ⟨Below.refl _ _,λid t k n cs h=>by simp[PHeap.empty]at h,λid t cs h=>by simp[PHeap.empty]at h,λid p cs φ h=>by simp[PHeap.empty]at h,λi=> .unk _,λid id' g h=>by simp[PHeap.empty]at h,hlt,λid b h=>by simp[PHeap.empty]at h⟩ hR2 hv;exact zc0 he ((hc ⟨PZ W.Z H V,W.Z.m⟩ w vs hlt (wbq hr.heap) hR3).mono λe w'⟨v,p,h1,h2,hnp,h3,hb⟩=>⟨v,h1,p,H,V,hk p h2,hr.put hb o.dst hd (h3.noP hnp λb _ hz hz'=>hz (zi.2 hz'))⟩)
theorem Rel.turn{V:Nat->Value}{a:Act}{w w':World}(hr:Rel P W n F H V a w){id:Nat}{b':zcb}{v0:Value}(ht:Turn W H V w id b' v0 w')(hb:∀bd,b'.body=some bd->zwg W (H.set id b') (yf V id v0) w' v0 bd)(d:Option Nat)(hd:∀t,d=some t->t<n){p:PV}{v:Value}(hp:Rp W.Z (H.set id b') (yf V id v0) w' p v):
  Rel P W n (F.put d p) (H.set id b') (yf V id v0) (a.put d v) w':=by
 refine⟨ht.heap hr.heap hb,?_,?_,λt=>?_⟩
 ·cases d<;>simp[Act.put,hr.size]
 ·cases d<;>simp[Act.put,hr.defers]
 ·cases d with
  |none=>simpa [Act.put,PFrame.put]using ht.rp (hr.slot t)
  |some d=>
   by_cases e:d=t
   ·subst e;have:=hd d rfl;simpa [Act.put,PFrame.put,hr.size,this]using hp
   ·have e2:¬(some d=some t):=by simpa using e
    simp only[PFrame.put,if_neg e2];have:=ht.rp (hr.slot t);simpa [Act.put,wgk e]using this
theorem wa6{V:Nat->Value}{w w':World}(hr:HRel P W H V w)(hb:Below w.heap.size w w'){id:Nat}{b':zcb}(hv:b'.ver=(H id).ver+1){v0:Value}(h0:∀g,qc v0=some g->w.heap.size<=g):Turn W H V w id b' v0 w':=
 ⟨hr.below.trans (hb.mono hr.below.size),hb.size,λb hlt _=>hb.block b hlt,λg hg=> .inl (h0 g hg),.inl (by omega)⟩
theorem wb4{o:Oper}{c:Call}{as qs:List PV}{f:FuncId}{t:TypeId}{kk d id:Nat}{R:Nat->List Value->Prop}{k:PV->PHeap->Prop}(hd:o.dst=some d)(hdn:d<n)(ho:o.op=.call c)(ht:yr F c=some (f,as))(hf:yx P f=true)(hv:ViewL H as qs)(hc:zpp P f qs t kk R)
  (hk:∀m us,R m us->us.length=m*kk->k (.ps id ((H id).ver+1)) (H.set id ⟨(H id).ver+1,some (.row t kk m (us.map .u))⟩)):PE P W n o F H k:=λV a w hr=>by
 obtain⟨vs,he,hR⟩:=Qz (P:=P) (W:=W) (H:=H) (V:=V) (a:=a) (w:=w) ho ht hf λx hx'=>Rp.eval (P:=P) x λt ht=>hr.slot t;have hR2:=hR.view hr.heap hv;refine zc0 he ((hc w vs ⟨hR2.1,λi p v h1 h2=>(hR2.2 i p v h1 h2).mono (λb hb hlt=>⟨λhq=>(zi.1 hq).elim,hlt,rfl⟩) (wgm _) (λ_=>weh _) (λid ver _ h1 h2=>⟨h1,h2,rfl⟩)⟩).mono λe w'⟨v,m,us,h1,h2,ho2,h4,hb⟩=>⟨v,h1,.ps id ((H id).ver+1),_,yf V id v,hk m us h2 ho2.1,?_⟩);have hsz:=hr.heap.below.size;have hown:w'.ownsRow W.w.heap.size t kk v m us:=⟨ho2.1,by
  rcases ho2.2 with h5|⟨g,cap,cur,e,hg,r⟩
  ·exact .inl h5
  ·exact .inr ⟨g,cap,cur,e,by omega,r⟩⟩
 refine hr.turn (wa6 hr.heap hb rfl λg hg=>?_) (λbd hbd=>?_) o.dst (λt ht=>by rw[hd]at ht;cases ht;exact hdn) ?_
 ·rcases ho2.2 with⟨e,_⟩|⟨g',cap,cur,e,hg',_⟩
  ·rw[e]at hg;cases hg
  ·rw[e]at hg;cases hg;exact hg'
 ·cases hbd;exact⟨us,hown,RpL.us us,h4⟩
 ·refine .ps _ _ _ ?_ λ_ _=>?_
  ·simp[PHeap.set]
  ·simp[yf]
end
section
variable{P:Program}{W:Env}{n:Nat}{H:PHeap}{F:PFrame}
theorem yh{o:Oper}{a:Act}{w w':World}{v:Value}{K:Act->World->Prop}{Q:Exit->Act->World->Prop}(he:(execOp a.eval o).run P w=.ok (.value v) w')(h:K (a.put o.dst v) w'):o.wp P a w K Q:=by
 unfold Oper.wp;rw[he];exact h
theorem Rel.newBox{V:Nat->Value}{a:Act}{w:World}(hr:Rel P W n F H V a w){d id:Nat}(hd:d<n){t:TypeId}{cs:List PV}{us:Array Value}(hR:RpL W.Z H V w cs us.toList)(h1:∀v∈us.toList,v.oneCell'=true):
  Rel P W n (F.put (some d) (.pp id 0 ((H id).ver+1))) (H.set id ⟨(H id).ver+1,some (.box t cs)⟩) (yf V id (.pointer (some ⟨w.heap.size,0,none⟩))) (a.put (some d) (.pointer (some ⟨w.heap.size,0,none⟩))) (w.alloc (.cells us t)):=by
 have hb:Below w.heap.size w (w.alloc (.cells us t)):=(Below.refl _ _).alloc (weh _) _;have ht:Turn W H V w id ⟨(H id).ver+1,some (.box t cs)⟩ (.pointer (some ⟨w.heap.size,0,none⟩)) (w.alloc (.cells us t)):=wa6 hr.heap hb rfl λg hg=>by cases hg;exact weh _
 refine hr.turn ht (λbd hbd=>?_) (some d) (λt ht=>by cases ht;exact hd) ?_
 ·cases hbd;exact⟨_,us,rfl,hr.heap.below.size,heap_alloc_new w _,hR.mono λp v hp=>ht.rp hp,h1⟩
 ·refine .pp _ _ _ _ ?_ λ_ _=>⟨w.heap.size,?_,rfl⟩
  ·simp[PHeap.set]
  ·simp[yf,qc]
def zfn(P:Program)(t:TypeId):Option (List Value):=((P.info? t).bind (·.zero)).map λz=>z.cells.toList
theorem PE.alloc{o:Oper}{t:TypeId}{d id:Nat}{us:List Value}{k:PV->PHeap->Prop}(ho:o.op=.alloc t)(hd:o.dst=some d)(hdn:d<n)(hz:zfn P t=some us)(h1:us.all Value.oneCell'=true)(hk:k (.pp id 0 ((H id).ver+1)) (H.set id ⟨(H id).ver+1,some (.box t (us.map .u))⟩)):PE P W n o F H k:=λV a w hr=>by
 obtain⟨z,hz1,rfl⟩:=wee.1 hz;obtain⟨ti,hti,htz⟩:=wgf.1 hz1;have hrun:(execOp a.eval o).run P w=.ok (.value (.pointer (some ⟨w.heap.size,0,none⟩))) (w.alloc (.cells z.cells t)):=by
  simp only[execOp,ho];simp[Instr.alloc,zeroValue,typeInfo,hti,htz,newVar,newRow]
 refine yh hrun ⟨_,_,yf V id (.pointer (some ⟨w.heap.size,0,none⟩)),hk,?_⟩;rw[hd];exact hr.newBox hdn (RpL.us _) (we0.1 h1)
theorem PE.box{o:Oper}{t:TypeId}{x:Operand}{d id:Nat}{k:PV->PHeap->Prop}(ho:o.op=.box t x)(hd:o.dst=some d)(hdn:d<n)(hok:okC H (evP F x)=true)(hk:k (.pp id 0 ((H id).ver+1)) (H.set id ⟨(H id).ver+1,some (.box t (evP F x).cells)⟩)):PE P W n o F H k:=λV a w hr=>by
 obtain⟨hR,h1⟩:=(Rp.eval (P:=P) (F:=F) (a:=a) x λt _=>hr.slot t).cells hr.heap hok;have hrun:(execOp a.eval o).run P w=.ok (.value (.pointer (some ⟨w.heap.size,0,none⟩))) (w.alloc (.cells (a.eval x).cells t)):=by
  simp only[execOp,ho];simp[Instr.box,newVar,newRow]
 refine yh hrun ⟨_,_,yf V id (.pointer (some ⟨w.heap.size,0,none⟩)),hk,?_⟩;rw[hd];exact hr.newBox hdn hR h1
def z3u(off:Nat)(ps:List PV):PBody->PBody
 |.row t k n cs => .row t k n (setMany cs off ps)
 |.box t cs => .box t (setMany cs off ps)
 |.raw p cs φ => .raw p cs φ
theorem zxa{α:Type}(cs ps:List α)(off m:Nat)(h:off+ps.length<=m)(hm:m<=cs.length):(setMany cs off ps).take m=setMany (cs.take m) off ps:=by
 apply wfj;intro i;rw[wfm,za _ _ _ (by omega),za _ _ _ (by simp;omega),wfm];by_cases hi:i<m
 ·simp[hi]
 ·rw[if_neg hi,if_neg (by omega),if_neg hi]
theorem zwh{w:World}{t:TypeId}{ag:Bool}{k g off:Nat}{cur:Array Value}{T:TypeId}{v:Value}(ht:asz P t=some (ag,k))(hg:w.heap[g]?=some (.cells cur T (0,0)))(hk:v.cells.size=k)(hfit:off+k<=cur.size)(h1:∀u∈v.cells.toList,u.oneCell'=true):
  (Instr.storeAt t (.pointer (some ⟨g,off,none⟩)) v).run P w=.ok () (w.setRow g (setMany cur.toList off v.cells.toList).toArray):=by
 have h2:=(zgx ht w).2;have h3:=run_storeCells_at (P:=P) g off T v.cells.toList 0 cur w hg (by simp[hk];omega) h1;simp only[Instr.storeAt,Instr.sureAddr,storeVar,Sem.run_bind,Sem.run_pure,Result.andThen_ok,h2,hk,ne_eq,not_true_eq_false,if_false];simp only[wfu]at h3;simpa [setMany]using h3
theorem PE.store{o:Oper}{t:TypeId}{x y:Operand}{id off ver k:Nat}{ag:Bool}{cs:List PV}{bd:PBody}{K:PV->PHeap->Prop}(ho:o.op=.store t x y)(hd:jo n o)(hx:evP F x=.pp id off ver)(hl:jl H id ver=some cs)(ht:asz P t=some (ag,k))(hok:okC H (evP F y)=true)(hlen:(evP F y).cells.length=k)(hfit:off+k<=cs.length)(hbd:(H id).body=some bd)
  (hk:K (.u undef) (H.set id ⟨ver,some (z3u off (evP F y).cells bd)⟩)):PE P W n o F H K:=λV a w hr=>by
 obtain⟨hR,h1⟩:=(Rp.eval (P:=P) (F:=F) (a:=a) y λt _=>hr.slot t).cells hr.heap hok;have hxv:=Rp.eval (P:=P) (F:=F) (a:=a) (Z:=W.Z) (H:=H) (V:=V) (w:=w) x λt _=>hr.slot t;obtain⟨a1,a2⟩:=zh hl;rw[hx]at hxv;generalize hv:a.eval x=v at hxv;cases hxv with
 |pp _ _ _ _ hvv hh=>
  obtain⟨g,hg,rfl⟩:=hh a1 a2;have hsz:(a.eval y).cells.size=k:=by rw[<- hlen];have:=hR.1;simpa using this.symm
  -- the block, and what it is behind the store
  have key:∃cur T,w.heap[g]?=some (.cells cur T (0,0))/\off+k<=cur.size/\W.w.heap.size<=g /\
    ∀H' V' w',(∀p v,Rp W.Z H V w p v->Rp W.Z H' V' w' p v)->w'.heap[g]?=some (.cells (setMany cur.toList off (a.eval y).cells.toList).toArray T (0,0))->zwg W H' V' w' (V id) (z3u off (evP F y).cells bd):=by
   have hown:=(hr.heap.own_lt a1 hg).1;cases bd with
   |row T kk m cs'=>
    have hcs:cs'=cs:=by unfold jl at hl;rw[hbd]at hl;simp only[a2,if_true,we6]at hl;exact hl
    subst hcs;obtain⟨vals,ho2,hR2,h12⟩:=hr.heap.row id T kk m cs' hbd;rcases ho2.2 with⟨e,_⟩|⟨g',cap,cur,e,hg',hh',hcap,hmax,hsize,htake⟩
    ·rw[e]at hg;cases hg
    ·have:g'=g:=by rw[e]at hg;simpa [qc]using hg
     subst this;have hvl:cs'.length=vals.length:=hR2.1;have hm1:m*kk=vals.length:=ho2.1.symm;have hmc:m*kk<=cur.size:=by rw[hsize];exact wgg _ hcap
     refine⟨cur,T,hh',by omega,hown,λH' V' w' hm hw'=>?_⟩;refine⟨setMany vals off (a.eval y).cells.toList,⟨by rw[Qt _ _ _ (by simp[hsz];omega)];exact ho2.1,.inr ⟨g',cap,_,e,hg',hw',hcap,hmax,by simp[Qt _ _ _ (show off+(a.eval y).cells.toList.length<=cur.toList.length by simp[hsz];omega),hsize],?_⟩⟩,?_,?_⟩
     ·rw[zxa _ _ _ _ (by simp[hsz];omega) (by simpa using hmc),htake]
     ·have:=RpL.setMany (W:=W) (H:=H) hR2 hR (off:=off) (by omega);exact this.mono hm
     ·intro u hu;rcases zga hu with hu|hu
      ·exact h12 u hu
      ·exact h1 u hu
   |box T cs'=>
    have hcs:cs'=cs:=by unfold jl at hl;rw[hbd]at hl;simp only[a2,if_true,we6]at hl;exact hl
    subst hcs;obtain⟨g',arr,e,hg',hh',hR2,h12⟩:=hr.heap.box id T cs' hbd;have:g'=g:=by rw[e]at hg;simpa [qc]using hg
    subst this;have hvl:cs'.length=arr.size:=by have:=hR2.1;simpa using this
    refine⟨arr,T,hh',by omega,hown,λH' V' w' hm hw'=>?_⟩;refine⟨g',_,e,hg',hw',?_,?_⟩
    ·simp only[List.toList_toArray];exact(RpL.setMany (W:=W) (H:=H) hR2 hR (off:=off) (by omega)).mono hm
    ·intro u hu;rcases zga hu with hu|hu
     ·exact h12 u hu
     ·exact h1 u hu
   |raw p cs φ=>unfold jl at hl;rw[hbd]at hl;cases hl
  obtain⟨cur,T,hcur,hfit2,hWg,hbody⟩:=key;have hrun:=zwh (P:=P) (off:=off) ht hcur hsz hfit2 h1;have hturn:Turn W H V w id ⟨ver,some (z3u off (evP F y).cells bd)⟩ (V id) (w.setRow g (setMany cur.toList off (a.eval y).cells.toList).toArray):=by
   have hother:∀b,b≠g->(w.setRow g (setMany cur.toList off (a.eval y).cells.toList).toArray).heap[b]?=w.heap[b]?:=λb hb=>setRow_other w g b _ hb;refine⟨hr.heap.below.trans ⟨rfl,rfl,rfl,by simp,λb hb=>hother b (by omega)⟩,by simp,λb hb hn=>hother b λe=>hn ⟨a1,by rw[e];exact hg⟩,λg' hg'=> .inr ⟨a1,hg'⟩,.inr ⟨a2.symm,rfl,a1⟩⟩
  have:(execOp a.eval o).run P w=.ok .skip (w.setRow g (setMany cur.toList off (a.eval y).cells.toList).toArray):=by
   simp[execOp,ho,hv,hrun]
  unfold Oper.wp;rw[this];exact⟨.u undef,_,yf V id (V id),hk,hr.turn hturn (λbd' hbd'=>by
   cases hbd';exact hbody _ _ _ (λp v hp=>hturn.rp hp) (setRow_heap w g cur _ T (0,0) hcur)) o.dst hd (.u _)⟩
def yq(P:Program)(t:TypeId):Option (TypeId×Nat×Nat×Value):=
 match P.underlying t with
 |some (.slice e)=>
  match P.info? e with
  |some i=>match i.zero with
   |some z=>if z.cells.size=i.size/\0<i.size then some (e,i.size,i.bytes,z)else none
   |none=>none
  |none=>none
 |_=>none
theorem Zg{t e:TypeId}{k b:Nat}{z:Value}(h:yq P t=some (e,k,b,z)):∃i,P.underlying t=some (.slice e)/\P.info? e=some i/\i.zero=some z/\i.size=k/\i.bytes=b/\z.cells.size=k/\0<k:=by
 unfold yq at h;split at h
 ·rename_i e' hu;split at h
  ·rename_i i hi;split at h
   ·rename_i z' hz;split at h
    ·rename_i hc;cases h;exact⟨i,hu,hi,hz,rfl,rfl,hc.1,hc.2⟩
    ·cases h
   ·cases h
  ·cases h
 ·cases h
theorem zuy{k:Nat}{places:List (Nat×Nat)}:∀(ps:List PV)(i:Nat)(cs:List PV),(∀p∈ps,p.cells.length=k/\okC H p=true)->(∀j,j<ps.length->places[i+j]?=some ((i+j)*k,k))->(i+ps.length)*k=cs.length ->
  Yy H places cs ((List.range' i ps.length).zip ps)=some (cs.take (i*k)++ps.flatMap PV.cells)
 |[],i,cs,_,_,hl=>by
  simp only[wgp,List.range'_zero,List.zip_nil_left,Yy,whc,weq];rw[wfs (by simp at hl;omega)]
 |p::ps,i,cs,hp,hpl,hl=>by
  obtain⟨h1,h2⟩:=hp p (by simp);have h3:=hpl 0 (by simp);simp only[wfu]at h3;have e:(i+(ps.length+1))*k=i*k+k+ps.length*k:=by rw[wfr,wfr];omega
  simp only[we2]at hl⊢;rw[e]at hl;simp only[List.range'_succ,List.zip_cons_cons,Yy,h3];rw[if_pos ⟨h1,by omega,h2⟩,zuy ps (i+1) _ (λq hq=>hp q (by simp[hq])) (λj hj=>by have:=hpl (j+1) (by simp;omega);rwa [show i+(j+1)=i+1+j by omega]at this) (by rw[Qt _ _ _ (by omega),<- hl,wfr,wfr];omega)];congr 1;rw[wex,<- weu];congr 1;unfold setMany;rw[h1,wfr,Nat.one_mul,wgy (by simp;omega),wfs (by simp;omega)]
def zal(H:PHeap)(k len:Nat)(ps:List (Nat×PV)):Bool:=decide (ps.map (·.1)=List.range len) && ps.all (λp=>decide (p.2.cells.length=k) && okC H p.2)
theorem zgp{V:Nat->Value}{w:World}(hr:HRel P W H V w){t e:TypeId}{k b len:Nat}{z:Value}(ht:yq P t=some (e,k,b,z))(hbig:len*k<=16777216){ps:List (Nat×PV)}{vs:Array (Nat×Value)}(hp:RpParts W.Z H V w ps vs.toList)(hlit:zal H k len ps=true)(hz:z.cells.toList.all Value.oneCell'=true):
  ∃arr:Array Value,(Instr.buildSlice t len vs).run P w=.ok (.slice (some ⟨w.heap.size,0,none⟩) len len) (w.alloc (.cells arr e))/\RpL W.Z H V w ((ps.map (·.2)).flatMap PV.cells) arr.toList/\(∀v∈arr.toList,v.oneCell'=true)/\arr.size=len*k/\ps.length=len:=by
 obtain⟨i,hu,hi,hzz,rfl,rfl,hzs,hpos⟩:=Zg ht;simp only[zal,wd8,wed,we0]at hlit;obtain⟨hidx,hall⟩:=hlit;have hlen:ps.length=len:=by have:=congrArg List.length hidx;simpa using this
 have hzip:ps=(List.range' 0 (ps.map (·.2)).length).zip (ps.map (·.2)):=by
  rw[wey,hlen,<- List.range_eq_range',<- hidx];clear hidx hall hlen hp;induction ps with
  |nil=>rfl
  |cons p ps ih=>simp only[wen,List.zip_cons_cons];rw[<- ih]
 let zs:Array Value:=(Array.range (len*i.size)).map (z.cells[· % z.cells.size]!)
 have hzsz:zs.size=len*i.size:=by simp[zs]
 have hone:∀v∈zs.toList,v.oneCell'=true:=λv hv=>by
  simp only[zs,Array.toList_map,wef]at hv;obtain⟨j,_,rfl⟩:=hv;have hj:j % z.cells.size<z.cells.size:=Nat.mod_lt _ (by omega);rw[getElem!_pos z.cells _ hj];rw[we0]at hz;exact hz _ (by simp)
 have hf:Yy H ((List.range len).map λj=>(j*i.size,i.size)) (zs.toList.map .u) ps=some ((ps.map (·.2)).flatMap PV.cells):=by
  have:=zuy (H:=H) (k:=i.size) (places:=(List.range len).map λj=>(j*i.size,i.size)) (ps.map (·.2)) 0 (zs.toList.map .u) (λp hp=>by
   obtain⟨q,hq,rfl⟩:=wef.1 hp;have:=hall q hq;simpa using this) (λj hj=>by
   rw[wey,hlen]at hj;simp[hj]) (by simp[hzsz,hlen])
  rw[<- hzip]at this;simpa using this
 obtain⟨r,hr1,hr2,hr3⟩:=ze9 hr (place:=λj=>some (j*i.size,i.size)) (places:=(List.range len).map λj=>(j*i.size,i.size)) (λj x hx=>by
  rw[web]at hx;cases hj:(List.range len)[j]? with
  |none=>rw[hj]at hx;cases hx
  |some j'=>
   rw[hj]at hx;obtain⟨h1,h2⟩:=wd5.1 hj;have:j'=j:=by simpa using h2.symm
   subst this;simpa using hx) ps vs.toList _ zs _ hp (RpL.us _) hone hf
 have hrsz:r.size=len*i.size:=by
  have h1:=hr2.1;have:((ps.map (·.2)).flatMap PV.cells).length=len*i.size:=by
   have:∀(ys:List PV),(∀y∈ys,y.cells.length=i.size)->(ys.flatMap PV.cells).length=ys.length*i.size:=by
    intro ys;induction ys with
    |nil=>intro _;simp
    |cons y ys ih=>intro hy;rw[wex,weo,ih (λz hz=>hy z (by simp[hz])),hy y (by simp),we2,wfr];omega
   rw[this _ (λy hy=>by
    obtain⟨q,hq,rfl⟩:=wef.1 hy;exact(hall q hq).1),wey,hlen]
  rw[this]at h1;simpa using h1.symm
 refine⟨r,?_,hr2,hr3,hrsz,hlen⟩;have hzv:(zeroValue e).run P w=.ok z w:=by simp[zeroValue,typeInfo,hi,hzz]
 have hsz:(sizeOf e).run P w=.ok i.size w:=by simp[sizeOf,typeInfo,hi]
 have hnb:¬(len*i.size > 16777216):=by omega
 by_cases h0:len*i.size=0
 ·have hl0:len=0:=by rcases Nat.mul_eq_zero.1 h0 with h|h<;>omega
  subst hl0;have hps:ps=[]:=wek hlen;have hvs:vs = #[]:=by apply Array.ext';have:=hp.1;rw[hps]at this;exact wek this.symm
  subst hvs;have hr0:r = #[]:=by apply Array.ext';exact wek (by simpa using hrsz)
  subst hr0;unfold Instr.buildSlice;have hra:Array.range 0 = #[]:=rfl;simp[run_underlying hu,hsz,newRow,Instr.fill,hra]
 ·unfold Instr.buildSlice;simp only[run_underlying hu,hsz,Sem.run_bind,Result.andThen_ok,hnb,h0,if_false,hzv,Sem.run_ite,Sem.run_pure];have:Instr.fill (λi_1=>some (i_1*i.size,i.size)) ((Array.range (len*i.size)).map (z.cells[· % z.cells.size]!)) vs.toList=some r:=hr1;simp[this,newRow]
end
section
variable{P:Program}{W:Env}{n:Nat}{H:PHeap}{F:PFrame}
theorem RpParts.eval{V:Nat->Value}{w:World}{a:Act}(parts:Array (Nat×Operand))(h:∀x∈parts.toList,Rp W.Z H V w (evP F x.2) (a.eval x.2)):
  RpParts W.Z H V w (parts.toList.map λx=>(x.1,evP F x.2)) (parts.map λ(x:Nat×Operand)=>(x.1,a.eval x.2)).toList:=⟨by simp,λi p v h1 h2=>by
 rw[web]at h1;rw[Array.toList_map,web]at h2;cases hi:parts.toList[i]? with
 |none=>rw[hi]at h1;cases h1
 |some y=>
  rw[hi]at h1 h2;cases h1;cases h2;exact⟨rfl,h y (wd7 hi)⟩⟩
theorem Rel.newRow{V:Nat->Value}{a:Act}{w w':World}(hr:Rel P W n F H V a w){d id:Nat}(hd:d<n){t:TypeId}{k m:Nat}{cs:List PV}{us:List Value}{v0:Value}(hb:Below w.heap.size w w')(hv0:∀g,qc v0=some g->w.heap.size<=g)(ho:w'.ownsRow W.w.heap.size t k v0 m us)
  (hR:RpL W.Z H V w cs us) (h1:∀v∈us,v.oneCell'=true) :
  Rel P W n (F.put (some d) (.ps id ((H id).ver+1))) (H.set id ⟨(H id).ver+1,some (.row t k m cs)⟩) (yf V id v0) (a.put (some d) v0) w':=by
 have ht:Turn W H V w id ⟨(H id).ver+1,some (.row t k m cs)⟩ v0 w':=wa6 hr.heap hb rfl hv0;refine hr.turn ht (λbd hbd=>?_) (some d) (λt ht=>by cases ht;exact hd) ?_
 ·cases hbd;exact⟨us,ho,hR.mono λp v hp=>ht.rp hp,h1⟩
 ·refine .ps _ _ _ ?_ λ_ _=>?_
  ·simp[PHeap.set]
  ·simp[yf]
theorem PE.buildSlice{o:Oper}{t e:TypeId}{k b len d id:Nat}{z:Value}{parts:Array (Nat×Operand)}{K:PV->PHeap->Prop}(ho:o.op=.buildSlice t len parts)(hd:o.dst=some d)(hdn:d<n)(ht:yq P t=some (e,k,b,z))(hz:z.cells.toList.all Value.oneCell'=true)(hbig:len*k<=16777216)(hmax:len<=maxLen)
  (hlit:zal H k len (parts.toList.map λx=>(x.1,evP F x.2))=true) (hk:K (.ps id ((H id).ver+1)) (H.set id ⟨(H id).ver+1,some (.row e k len ((parts.toList.map λx=>evP F x.2).flatMap PV.cells))⟩)):PE P W n o F H K:=λV a w hr=>by
 have hp:=RpParts.eval (W:=W) (H:=H) (V:=V) (w:=w) (F:=F) (a:=a) parts λx _=>Rp.eval (P:=P) x.2 λt _=>hr.slot t;obtain⟨arr,hrun,hR,h1,hsz,hlen⟩:=zgp hr.heap ht hbig hp hlit hz;have hex:(execOp a.eval o).run P w=.ok (.value (.slice (some ⟨w.heap.size,0,none⟩) len len)) (w.alloc (.cells arr e)):=by
  simp[execOp,ho,hrun]
 refine yh hex ⟨_,_,yf V id (.slice (some ⟨w.heap.size,0,none⟩) len len),hk,?_⟩;rw[hd];have hb:Below w.heap.size w (w.alloc (.cells arr e)):=(Below.refl _ _).alloc (weh _) _;refine hr.newRow (us:=arr.toList) hdn hb (λg hg=>by cases hg;exact weh _) ⟨by simp[hsz],.inr ⟨w.heap.size,len,arr,rfl,hr.heap.below.size,heap_alloc_new w _,weh _,hmax,hsz,by rw[wfs (by simp[hsz])]⟩⟩ ?_ h1;simpa [wff,Function.comp_def]using hR
theorem PQ.buildSlice{o:Oper}{t e:TypeId}{k b len:Nat}{z:Value}{parts:Array (Nat×Operand)}(ho:o.op=.buildSlice t len parts)(ht:yq P t=some (e,k,b,z))(hz:z.cells.toList.all Value.oneCell'=true)(hbig:len*k<=16777216)
  (hlit:zal H k len (parts.toList.map λx=>(x.1,evP F x.2))=true):PQ P W o F H (.sl k (parts.toList.map λx=>evP F x.2)):=λV a w hr hx=>by
 have hp:=RpParts.eval (W:=W) (H:=H) (V:=V) (w:=w) (F:=F) (a:=a) parts λx hx'=>Rp.eval (P:=P) x.2 λt ht=>hx t (by
  rw[ho];simp only[Op.operands,List.mem_toArray,wef];exact⟨x,hx',ht⟩)
 obtain⟨arr,hrun,hR,h1,hsz,hlen⟩:=zgp hr ht hbig hp hlit hz;have hex:(execOp a.eval o).run P w=.ok (.value (.slice (some ⟨w.heap.size,0,none⟩) len len)) (w.alloc (.cells arr e)):=by
  simp[execOp,ho,hrun]
 have hb:Below w.heap.size w (w.alloc (.cells arr e)):=(Below.refl _ _).alloc (weh _) _;refine yh hex ⟨_,rfl,?_,hb⟩;have hps:(parts.toList.map λx=>(x.1,evP F x.2)).map (·.2)=parts.toList.map λx=>evP F x.2:=by simp[wff,Function.comp_def]
 rw[hps]at hR;have hl2:(parts.toList.map λx=>evP F x.2).length=len:=by simpa using hlen
 simp only[zal,wd8,wed,we0]at hlit;have:=Rp.sl (Z:=W.Z) (H:=H) (V:=V) (w:=w.alloc (.cells arr e)) k (parts.toList.map λx=>evP F x.2) w.heap.size 0 len (λi=>(arr[i]?).getD undef) (λy hy=>by
  obtain⟨q,hq,rfl⟩:=wef.1 hy;exact(hlit.2 (q.1,evP F q.2) (wef.2 ⟨q,hq,rfl⟩)).1) (by omega) (λhz=>by
  rcases hz with hz|⟨id,h3,h4⟩
  ·have:=wbe hr _ hz;omega
  ·have:=(hr.own_lt h3 h4).2;omega) (by simp) (λi p hi=>by
  have hlt:=(wd5.1 hi).1;have hia:i<arr.size:=Nat.lt_of_lt_of_eq hlt (hR.1.trans Array.length_toList);rw[cell_of_row _ w.heap.size (0+i) arr e (0,0) (heap_alloc_new w _),wfa];simp[hia]) (λi p hi=>by
  have hlt:=(wd5.1 hi).1;have hia:i<arr.size:=Nat.lt_of_lt_of_eq hlt (hR.1.trans Array.length_toList);have:=hR.2 i p arr[i] hi (by simp[hia]);simp only[hia,wet,wfd];exact this.grow hb)
 rwa [hl2]at this
theorem PE.makeSlice{o:Oper}{t e:TypeId}{b d m id:Nat}{z:Value}{x y:Operand}{kx ky:IntKind}{K:PV->PHeap->Prop}(ho:o.op=.makeSlice t x y)(hd:o.dst=some d)(hdn:d<n)(ht:yq P t=some (e,1,b,z))(h1z:z.oneCell'=true)
  (hx:evP F x=.u (.int kx (m:Int))) (hy:evP F y=.u (.int ky (m:Int))) (hmax:m<=maxLen) (hbytes:b*m<=281474976710656) (hk:K (.ps id ((H id).ver+1)) (H.set id ⟨(H id).ver+1,some (.row e 1 m (List.replicate m (.u z)))⟩)):PE P W n o F H K:=λV a w hr=>by
 obtain⟨i,hu,hi,hzz,hsz1,rfl,hzs,hpos⟩:=Zg ht;have hx':a.eval x=.int kx m:=by
  have:=Rp.eval (P:=P) (F:=F) (a:=a) (Z:=W.Z) (H:=H) (V:=V) (w:=w) x λt _=>hr.slot t;rw[hx]at this;generalize a.eval x=q at this;cases this;rfl
 have hy':a.eval y=.int ky m:=by
  have:=Rp.eval (P:=P) (F:=F) (a:=a) (Z:=W.Z) (H:=H) (V:=V) (w:=w) y λt _=>hr.slot t;rw[hy]at this;generalize a.eval y=q at this;cases this;rfl
 have h63:(m:Int)<=9223372036854775807:=by have:=hmax;simp[maxLen]at this;omega
 have hb2:(i.bytes:Int)*(m:Int)<=281474976710656:=by
  have h:((i.bytes*m:Nat):Int)<=281474976710656:=by omega
  rwa [Int.natCast_mul]at h
 have hrun:=run_make (P:=P) w t e i z hu hi hzz kx ky m m (by omega) (Int.le_refl _) hb2 h63;simp only[wem,hsz1,wgu]at hrun;have hex:(execOp a.eval o).run P w=.ok (.value (.slice (some ⟨w.heap.size,0,none⟩) m m)) (w.alloc (.cells (madeCells z.cells m) e)):=by
  simp[execOp,ho,hx',hy',hrun]
 refine yh hex ⟨_,_,yf V id (.slice (some ⟨w.heap.size,0,none⟩) m m),hk,?_⟩;rw[hd];have hb:Below w.heap.size w (w.alloc (.cells (madeCells z.cells m) e)):=(Below.refl _ _).alloc (weh _) _;have hzc:z.cells = #[z]:=by cases z<;>first|rfl|simp[Value.oneCell']at h1z
 have hcells:(madeCells z.cells m).toList=List.replicate m z:=by
  rw[hzc];simp only[madeCells,Array.toList_map,Array.toList_range];apply wfj;intro j;by_cases hj:j<m<;>simp[hj,Nat.mod_one]
 refine hr.newRow (us:=List.replicate m z) hdn hb (λg hg=>by cases hg;exact weh _) ⟨by simp,.inr ⟨w.heap.size,m,_,rfl,hr.heap.below.size,heap_alloc_new w _,weh _,hmax,by simp[size_madeCells],by rw[hcells];simp⟩⟩ ?_ ?_
 ·have:=RpL.us (W:=W) (H:=H) (V:=V) (w:=w) (List.replicate m z);simpa using this
 ·intro v hv;rw[List.mem_replicate]at hv;rw[hv.2];exact h1z
end
section
variable{P:Program}{W:Env}{n:Nat}{H:PHeap}{F:PFrame}
def zdj(H:PHeap)(k:Nat):PV->Option (Nat×List PV)
 |.sl k' xs=>if k'=k then some (xs.length,xs.flatMap PV.cells)else none
 |.ps id ver=>
  match qm H id ver with
  |some (_,k',m,cs)=>if k'=k then some (m,cs)else none
  |none=>none
 |.u (.slice _ 0 _)=>some (0,[])
 |_=>none
theorem flat_length{k:Nat}:∀(ys:List PV),(∀y∈ys,y.cells.length=k)->(ys.flatMap PV.cells).length=ys.length*k
 |[],_=>by simp
 |y::ys,h=>by rw[wex,weo,flat_length ys (λz hz=>h z (by simp[hz])),h y (by simp),we2,wfr];omega
theorem zgl{V:Nat->Value}{w:World}(hr:HRel P W H V w){k m:Nat}{cs:List PV}{p:PV}{v:Value}(hx:Rp W.Z H V w p v)(h:zdj H k p=some (m,cs)):
  ∃ad c,v=.slice ad m c/\((m=0/\cs=[])\/∃b news,ad=some b/\news.length=m*k/\RpL W.Z H V w cs news/\∀j u,news[j]?=some u->w.cell? (b.add j)=some u):=by
 unfold zdj at h;split at h
 ·rename_i k' xs;split at h
  ·rename_i hk;subst hk;cases h;cases hx with
   |nil k a c=>exact⟨a,c,rfl,.inl ⟨rfl,rfl⟩⟩
   |sl k xs b o c g hu hlen hz hb h1 h2=>
    have hfl:=flat_length xs hu;refine⟨_,c,rfl,.inr ⟨⟨b,o,none⟩,(List.range (xs.length*k')).map g,rfl,by simp,⟨by simp[hfl],λi p v h3 h4=>?_⟩,λj u hu=>?_⟩⟩
    ·have hlt:=(wd5.1 h3).1;rw[hfl]at hlt;simp[hlt]at h4;rw[<- h4];exact h2 i p h3
    ·rw[zq];have hlt:j<xs.length*k':=by have:=(wd5.1 hu).1;simpa using this
     simp[hlt]at hu;rw[<- hu];have hj:j<(xs.flatMap PV.cells).length:=by rw[hfl];exact hlt
     exact h1 j _ (wd2 hj)
  ·cases h
 ·rename_i id ver;split at h
  ·rename_i t k' m' cs' hl;split at h
   ·rename_i hk;subst hk;cases h;obtain⟨hb,hve⟩:=vy hl;cases hx with
    |ps _ _ _ hvv hh=>
     rw[hh (by rw[hb];rfl) hve];obtain⟨vals,ho,hR,_⟩:=hr.row id t _ _ _ hb;rcases ho.2 with⟨e,rfl⟩|⟨g,cap,cur,e,_⟩
     ·refine⟨none,0,e,.inl ⟨rfl,?_⟩⟩;have h1:=ho.1;have h2:=hR.1;exact wek (by omega)
     ·refine⟨_,cap,e,.inr ⟨_,vals,rfl,ho.1,hR,λj u hu=>ho.cells (g:=g) (by rw[e];rfl) j u hu⟩⟩
   ·cases h
  ·cases h
 ·cases h;cases hx;exact⟨_,_,rfl,.inl ⟨rfl,rfl⟩⟩
 ·cases h
theorem zf4{w:World}{base:Nat}{t ty e:TypeId}{i:TypeInfo}{z:Value}{k:Nat}(ht:P.underlying t=some (.slice e))(hi:P.info? e=some i)(hz:i.zero=some z)(hk:i.size=k)(hzs:z.cells.size=k)(hpos:0<k)
  {v:Value}{m:Nat}{xs:List Value}(hown:w.ownsRow base e k v m xs){ad:Option Addr}{m2 c:Nat}{news:List Value}(hs:(m2=0/\news=[])\/∃b,ad=some b/\news.length=m2*k/\(∀j u,news[j]?=some u->w.cell? (b.add j)=some u)/\∀u∈news,u.oneCell'=true)
  (h63:m+m2<=maxLen) (hbytes:(m+m2)*i.bytes<=140737488355328) (hbase:base<=w.heap.size) :
  ∃v' w',(Builtin.append_ #[t,t] ty #[v,.slice ad m2 c]).run P w=.ok v' w'/\w'.ownsRow base e k v' (m+m2) (xs++news)/\w.grownBy w' v.ownBlock/\∀g,qc v'=some g->w.heap.size<=g\/qc v=some g:=by
 rcases hs with⟨rfl,rfl⟩|⟨b,rfl,hl,hc,h1⟩
 ·refine⟨v,w,?_,by simpa using hown,⟨rfl,rfl,rfl,weh _,λ_ _ _=>rfl⟩,λg hg=> .inr hg⟩;rcases hown.2 with⟨rfl,rfl⟩|⟨g,cap,cur,rfl,_,_,hcap,_⟩
  ·cases ad<;>simp[Builtin.append_,run_underlying ht,sizeOf,typeInfo,hi,Builtin.lenOf,Builtin.firstCells,loadCells,loadCellsFrom]
  ·cases ad<;>simp[Builtin.append_,run_underlying ht,sizeOf,typeInfo,hi,Builtin.lenOf,Builtin.firstCells,loadCells,loadCellsFrom,hcap,storeCells]
 ·obtain⟨v',w',hr,h2,h3,_⟩:=run_append_own (P:=P) w base t ty e i z k i.bytes ht hi hz hk rfl hzs hpos v m xs hown b m2 c news hl hc h1 h63 hbytes hbase;refine⟨v',w',hr,h2,h3,λg hg=>?_⟩;rcases hown.2 with⟨rfl,rfl⟩|⟨g0,cap,cur,rfl,hbg,hg0,hcap,hcm,hcs,htake⟩
  ·have hx:xs=[]:=wek (by simpa using hown.1);subst hx;obtain⟨v2,w2,hr2,h4,_⟩:=run_append_own (P:=P) w w.heap.size t ty e i z k i.bytes ht hi hz hk rfl hzs hpos (.slice none 0 0) 0 [] (World.ownsRow_nil _ _ _ _) b m2 c news hl hc h1 h63 hbytes (weh _);rw[hr]at hr2;cases hr2;left;refine(h4.lt g ?_).1;rcases h4.2 with⟨rfl,_⟩|⟨g',cap,cur,rfl,_⟩
   ·cases hg
   ·exact hg
  ·subst hk;by_cases hroom:m+m2<=cap
   ·have hr2:=run_append_room (P:=P) w t ty e i ht hi g0 m cap cur hg0 b m2 c news hl hc h1 hroom (by rw[hl,hcs,<- wfr];exact wgg _ hroom);rw[hr]at hr2;cases hr2;exact .inr hg
   ·have holds:∀j u,xs[j]?=some u->w.cell? ((⟨g0,0,none⟩:Addr).add j)=some u:=hown.cells (g:=g0) rfl;have h63':((m+m2:Nat):Int)<=9223372036854775807:=by simp only[maxLen]at h63;omega
    have hr2:=run_append_grow (P:=P) w t ty e i z ht hi hz ⟨g0,0,none⟩ m cap xs hown.1 holds b m2 c news hl hc (by omega) h63' (growslice_fits (by omega) hbytes);rw[hr]at hr2;cases hr2;cases hg;exact .inl (weh _)
theorem Q6{w:World}{base:Nat}{e:TypeId}{k m:Nat}{v:Value}{xs:List Value}(h:w.ownsRow base e k v m xs):v.ownBlock=qc v:=by
 rcases h.2 with⟨rfl,_⟩|⟨g,cap,cur,rfl,_⟩<;>rfl
theorem PE.append{o:Oper}{s x:Operand}{t e:TypeId}{k b d id ver m m2:Nat}{z:Value}{cs cs2:List PV}{K:PV->PHeap->Prop}(ho:o.op=.call { callee :=.builtin .append,args:=#[s,x],argTypes:=#[t,t] })(hd:o.dst=some d)(hdn:d<n)(ht:yq P t=some (e,k,b,z))
  (hs:evP F s=.ps id ver) (hl:qm H id ver=some (e,k,m,cs)) (hx:zdj H k (evP F x)=some (m2,cs2)) (hleaf:∀p∈cs2,qh H p=true) (h63:m+m2<=maxLen) (hbytes:(m+m2)*b<=140737488355328)
  (hk:K (.ps id (ver+1)) (H.set id ⟨ver+1,some (.row e k (m+m2) (cs++cs2))⟩)):PE P W n o F H K:=λV a w hr=>by
 obtain⟨i,hu,hi,hzz,hsz,rfl,hzs,hpos⟩:=Zg ht;obtain⟨hb,hve⟩:=vy hl;have hsv:a.eval s=V id:=by
  have:=Rp.eval (P:=P) (F:=F) (a:=a) (Z:=W.Z) (H:=H) (V:=V) (w:=w) s λt _=>hr.slot t;rw[hs]at this;generalize a.eval s=q at this;cases this with
  |ps _ _ _ hvv hh=>exact hh (by rw[hb];rfl) hve
 obtain⟨vals,hown,hR,h1⟩:=hr.heap.row id e k m cs hb;obtain⟨ad,c,hxv,hsrc⟩:=zgl hr.heap (Rp.eval (P:=P) (F:=F) (a:=a) x λt _=>hr.slot t) hx;have hsrc2:∃news,RpL W.Z H V w cs2 news/\(∀u∈news,u.oneCell'=true)/\((m2=0/\news=[])\/∃b,ad=some b/\news.length=m2*k/\(∀j u,news[j]?=some u->w.cell? (b.add j)=some u)/\∀u∈news,u.oneCell'=true):=by
  rcases hsrc with⟨rfl,rfl⟩|⟨b,news,e1,e2,hRn,e4⟩
  ·exact⟨[],⟨rfl,λi p v h=>by simp at h⟩,(λu hu=>by cases hu),.inl ⟨rfl,rfl⟩⟩
  ·have hone:∀u∈news,u.oneCell'=true:=λu hu=>by
    obtain⟨j,hj,rfl⟩:=wgb hu;have hj2:j<cs2.length:=by rw[hRn.1];exact hj
    exact(hRn.2 j _ _ (wd2 hj2) (wd2 hj)).leaf hr.heap (hleaf _ (wec hj2))
   exact⟨news,hRn,hone,.inr ⟨b,e1,e2,e4,hone⟩⟩
 obtain⟨news,hRn,hone,hs2⟩:=hsrc2;obtain⟨v',w',hrun,hown',hgr,hblk⟩:=zf4 (P:=P) (ty:=o.type) (c:=c) hu hi hzz hsz hzs hpos hown hs2 h63 hbytes hr.heap.below.size;have hex:(execOp a.eval o).run P w=.ok (.value v') w':=by
  unfold execOp;simp only[ho,resolve,invoke,builtin,Sem.run_bind,Sem.run_pure,Result.andThen_ok,wg0,wen,wfk,hsv,hxv,hrun]
 refine yh hex ⟨_,_,yf V id v',hk,?_⟩;have hob:=Q6 hown;have hturn:Turn W H V w id ⟨ver+1,some (.row e k (m+m2) (cs++cs2))⟩ v' w':=by
  refine⟨hr.heap.below.grown hgr hr.heap.below.size λkk hk=>?_,hgr.size,λbb hlt hn=>hgr.block bb hlt λe'=>hn ⟨by rw[hb];rfl,by rw[<- hob];exact e'.symm⟩,λg hg=>?_,.inl (by show(H id).ver<ver+1;omega)⟩
  ·exact(hown.lt kk hk).1
  ·rcases hblk g hg with h|h
   ·exact .inl h
   ·exact .inr ⟨by rw[hb];rfl,h⟩
 rw[hd];refine hr.turn hturn (λbd hbd=>?_) (some d) (λt ht=>by cases ht;exact hdn) ?_
 ·cases hbd;refine⟨vals++news,hown',⟨by simp[hR.1,hRn.1],λi p v h3 h4=>?_⟩,λu hu=>?_⟩
  ·by_cases hi':i<cs.length
   ·rw[weg hi']at h3;rw[weg (by rw[<- hR.1];exact hi')]at h4;exact hturn.rp (hR.2 i p v h3 h4)
   ·rw[wei (by omega)]at h3;rw[wei (by rw[<- hR.1];omega),<- hR.1]at h4;exact hturn.rp (hRn.2 _ p v h3 h4)
  ·rcases wej.1 hu with hu|hu
   ·exact h1 u hu
   ·exact hone u hu
 ·refine .ps _ _ _ ?_ λ_ _=>?_
  ·simp[PHeap.set]
  ·simp[yf]
theorem wbc{o:Oper}{s x:Operand}{t e:TypeId}{k b d m2 id:Nat}{z:Value}{cs2:List PV}{K:PV->PHeap->Prop}(ho:o.op=.call { callee :=.builtin .append,args:=#[s,x],argTypes:=#[t,t] })(hd:o.dst=some d)(hdn:d<n)(ht:yq P t=some (e,k,b,z))
  (hs:evP F s=.u (.slice none 0 0)) (hx:zdj H k (evP F x)=some (m2,cs2)) (hleaf:∀p∈cs2,qh H p=true) (h63:m2<=maxLen) (hbytes:m2*b<=140737488355328)
  (hk:K (.ps id ((H id).ver+1)) (H.set id ⟨(H id).ver+1,some (.row e k m2 cs2)⟩)):PE P W n o F H K:=λV a w hr=>by
 obtain⟨i,hu,hi,hzz,hsz,rfl,hzs,hpos⟩:=Zg ht;have hsv:a.eval s=.slice none 0 0:=by
  have:=Rp.eval (P:=P) (F:=F) (a:=a) (Z:=W.Z) (H:=H) (V:=V) (w:=w) s λt _=>hr.slot t;rw[hs]at this;generalize a.eval s=q at this;cases this;rfl
 obtain⟨ad,c,hxv,hsrc⟩:=zgl hr.heap (Rp.eval (P:=P) (F:=F) (a:=a) x λt _=>hr.slot t) hx;have hsrc2:∃news,RpL W.Z H V w cs2 news/\(∀u∈news,u.oneCell'=true)/\((m2=0/\news=[])\/∃b,ad=some b/\news.length=m2*k/\(∀j u,news[j]?=some u->w.cell? (b.add j)=some u)/\∀u∈news,u.oneCell'=true):=by
  rcases hsrc with⟨rfl,rfl⟩|⟨b,news,e1,e2,hRn,e4⟩
  ·exact⟨[],⟨rfl,λi p v h=>by simp at h⟩,(λu hu=>by cases hu),.inl ⟨rfl,rfl⟩⟩
  ·have hone:∀u∈news,u.oneCell'=true:=λu hu=>by
    obtain⟨j,hj,rfl⟩:=wgb hu;have hj2:j<cs2.length:=by rw[hRn.1];exact hj
    exact(hRn.2 j _ _ (wd2 hj2) (wd2 hj)).leaf hr.heap (hleaf _ (wec hj2))
   exact⟨news,hRn,hone,.inr ⟨b,e1,e2,e4,hone⟩⟩
 obtain⟨news,hRn,hone,hs2⟩:=hsrc2;obtain⟨v',w',hrun,hown',hgr,hblk⟩:=zf4 (P:=P) (ty:=o.type) (c:=c) hu hi hzz hsz hzs hpos (World.ownsRow_nil w W.w.heap.size e k) hs2 (by omega) (by simpa using hbytes) hr.heap.below.size;have hex:(execOp a.eval o).run P w=.ok (.value v') w':=by
  unfold execOp;simp only[ho,resolve,invoke,builtin,Sem.run_bind,Sem.run_pure,Result.andThen_ok,wg0,wen,wfk,hsv,hxv,hrun]
 refine yh hex ⟨_,_,yf V id v',hk,?_⟩;rw[hd];rw[wfa,wfx]at hown';have hb:Below w.heap.size w w':=⟨hgr.os,hgr.tape,hgr.output,hgr.size,λk hk=>hgr.block k hk (by simp[Value.ownBlock])⟩
 exact hr.newRow hdn hb (λg hg=>(hblk g hg).resolve_right (by simp[qc])) hown' hRn hone
def PL(P:Program)(W:Env)(n:Nat)(ops:Array Oper)(l:List Oper)(F:PFrame)(H:PHeap)(K:PFrame->PHeap->Prop):Prop:=
 ∀(V:Nat->Value)(a:Act)(w:World)(Q:Exit->Act->World->Prop),Rel P W n F H V a w->(∀F' H' V' a' w',K F' H'->Rel P W n F' H' V' a' w'->Q .normal a' w')->wpList P ops Q l a w
theorem PL.nil{ops:Array Oper}{K:PFrame->PHeap->Prop}(h:K F H):PL P W n ops [] F H K:=λV a w Q hr hQ=>wpList_nil (hQ F H V a w h hr)
theorem z5h{o:Oper}{a:Act}{w:World}{K K':Act->World->Prop}{Q:Exit->Act->World->Prop}(h:o.wp P a w K (λ_ _ _=>False))(hk:∀a w,K a w->K' a w):o.wp P a w K' Q:=by
 unfold Oper.wp at *;generalize (execOp a.eval o).run P w=r at *;cases r with
 |ok nx w'=>
  cases nx<;>simp only[Oper.upon]at h⊢
  case value u=>exact hk _ _ h
  case skip=>exact hk _ _ h
  case defer d=>exact hk _ _ h
  case enter f args=>
   refine h.mono λe w'' he=>?_;cases e with
   |returned v=>exact hk _ _ he
   |panicked c=>exact he.elim
   |outgrown=>obtain⟨_,_,hf⟩:=he;exact hf.elim
  case row row args=>exact h.mono λv w'' he=>hk _ _ he
 |halt x w'=>cases x<;>simp only[Oper.upon]at h
theorem PL.cons{ops:Array Oper}{o:Oper}{l:List Oper}{K:PFrame->PHeap->Prop}(hw:qb ops o F=some true)(h:PE P W n o F H λp H'=>PL P W n ops l (F.put o.dst p) H' K):PL P W n ops (o::l) F H K:=λV a w Q hr hQ=>by
 unfold wpList;rw[y4 hw hr.slot];simp only[if_true];exact .inl (z5h (h V a w hr) λa' w'⟨p,H',V',hk,hr'⟩=>hk V' a' w' Q hr' hQ)
theorem PL.skip{ops:Array Oper}{o:Oper}{l:List Oper}{K:PFrame->PHeap->Prop}(hw:qb ops o F=some false)(hd:jo n o)(h:PL P W n ops l (F.put o.dst (.u undef)) H K):PL P W n ops (o::l) F H K:=λV a w Q hr hQ=>by
 unfold wpList;rw[y4 hw hr.slot];simp only[we4,if_false];exact h V _ w Q (hr.put (Below.refl _ _) o.dst hd (.u _)) hQ
def PC(P:Program)(W:Env)(n:Nat)(c:Code)(F:PFrame)(H:PHeap)(Q:Exit->PFrame->PHeap->Prop):Prop:=
 ∀(V:Nat->Value)(a:Act)(w:World)(Q':Exit->Act->World->Prop),Rel P W n F H V a w->(∀e F' H' V' a' w',Q e F' H'->Rel P W n F' H' V' a' w'->Q' e a' w')->c.wp P Q' a w
def z5m(K:PFrame->PHeap->Prop)(Q:Exit->PFrame->PHeap->Prop):Exit->PFrame->PHeap->Prop
 |.normal,F,H=>K F H
 |e,F,H=>Q e F H
def zr0(id:Nat)(Q:Exit->PFrame->PHeap->Prop):Exit->PFrame->PHeap->Prop
 |.exit id',F,H=>if id'=id then Q .normal F H else Q (.exit id') F H
 |e,F,H=>Q e F H
section
variable{Q:Exit → PFrame → PHeap → Prop}
theorem PC.skip(h:Q .normal F H):PC P W n .skip F H Q:=λV a w Q' hr hQ=>wp_skip (hQ _ _ _ _ _ _ h hr)
theorem PC.ret(h:Q .ret F H):PC P W n .ret F H Q:=λV a w Q' hr hQ=>wp_ret (hQ _ _ _ _ _ _ h hr)
theorem PC.exit{id:Nat}(h:Q (.exit id) F H):PC P W n (.exit id) F H Q:=λV a w Q' hr hQ=>wp_exit (hQ _ _ _ _ _ _ h hr)
theorem PC.seq{x y:Code}(h:∀K:PFrame->PHeap->Prop,(∀F H,PC P W n y F H Q->K F H)->PC P W n x F H (z5m K Q)):PC P W n (.seq x y) F H Q:=λV a w Q' hr hQ=>by
 refine wp_seq (h (λF H=>PC P W n y F H Q) (λ_ _ h=>h) V a w _ hr λe F' H' V' a' w' hq hr'=>?_);cases e with
 |normal=>exact hq V' a' w' Q' hr' hQ
 |_=>exact hQ _ _ _ _ _ _ hq hr'
theorem PC.cond{c:Operand}{x y:Code}{t:Bool}(hc:evP F c=.u (.bool t))(ht:t=true->PC P W n x F H Q)(hf:t=false->PC P W n y F H Q):PC P W n (.cond c x y) F H Q:=λV a w Q' hr hQ=>by
 have h1:=Rp.eval (P:=P) (F:=F) (a:=a) (Z:=W.Z) (H:=H) (V:=V) (w:=w) c λt _=>hr.slot t;rw[hc]at h1;have h2:a.eval c=.bool t:=by generalize a.eval c=q at h1;cases h1;rfl
 exact wp_cond_split h2 (λe=>ht e V a w Q' hr hQ) (λe=>hf e V a w Q' hr hQ)
theorem PC.block{id:Nat}{c:Code}(h:PC P W n c F H (zr0 id Q)):PC P W n (.block id c) F H Q:=λV a w Q' hr hQ=>by
 refine wp_block (h V a w _ hr λe F' H' V' a' w' hq hr'=>?_);cases e with
 |exit id'=>
  simp only[zr0]at hq;simp only[Exit.inBlock];by_cases e:id'=id
  ·rw[if_pos e]at hq⊢;exact hQ _ _ _ _ _ _ hq hr'
  ·rw[if_neg e]at hq⊢;exact hQ _ _ _ _ _ _ hq hr'
 |_=>exact hQ _ _ _ _ _ _ hq hr'
theorem z9v{c:Code}{Q:Exit->Act->World->Prop}(I:Nat->Act->World->Prop)(round:∀m a w,I m a w->c.wp P (Exit.then (λa' w'=>∃m',m'<m/\I m' a' w') Q) a w){m:Nat}{a:Act}{w:World}(h:I m a w):(Code.loop c).wp P Q a w:=by
 intro b k cs;have key:∀m a w,I m a w->∃e a' w',Q e a' w'/\Arrives P (lone (b.at a (.code c :: .inLoop c::k)) cs w) b k cs e a' w':=by
  intro m;induction m using Nat.strongRecOn with
  |_ m ih=>
   intro a w hI;obtain⟨e,a₁,w₁,hq,harr⟩:=round m a w hI b (.inLoop c::k) cs;cases e with
   |normal=>
    obtain⟨m',hlt,hI'⟩:=hq;obtain⟨e₂,a₂,w₂,hq₂,harr₂⟩:=ih m' hlt a₁ w₁ hI';exact⟨e₂,a₂,w₂,hq₂,.of_steps (Steps.trans harr (.one step_inLoop)) harr₂⟩
   |exit id=>exact⟨_,a₁,w₁,hq,.pass (x :=.inLoop c) rfl (λ_ _=> .inl (by simp)) harr⟩
   |goto l=>exact⟨_,a₁,w₁,hq,.pass (x :=.inLoop c) rfl (λ_ _=> .inl (by simp)) harr⟩
   |ret=>exact⟨_,a₁,w₁,hq,.pass (x :=.inLoop c) rfl (λ_ _=> .inl (by simp)) harr⟩
   |panic ch=>exact⟨_,a₁,w₁,hq,.pass (x :=.inLoop c) rfl (λ_ _=> .inl (by simp)) harr⟩
   |outgrown=>exact⟨_,a₁,w₁,hq,.pass (x :=.inLoop c) rfl (λ_ _=> .inl (by simp)) harr⟩
 obtain⟨e,a',w',hq,harr⟩:=key m a w h;exact⟨e,a',w',hq,.of_steps (.one step_loop) harr⟩
theorem PC.loop{c:Code}(I:Nat->PFrame->PHeap->Prop){m:Nat}(h0:I m F H)(round:∀m F H,I m F H->PC P W n c F H (z5m (λF' H'=>∃m',m'<m/\I m' F' H') Q)):PC P W n (.loop c) F H Q:=λV a w Q' hr hQ=>by
 refine z9v (λm a w=>∃F H V,I m F H/\Rel P W n F H V a w) (λm a w hI=>?_) ⟨F,H,V,h0,hr⟩;obtain⟨F,H,V,hI,hr⟩:=hI;refine round m F H hI V a w _ hr λe F' H' V' a' w' hq hr'=>?_;cases e with
 |normal=>
  obtain⟨m',hlt,h⟩:=hq;exact⟨m',hlt,F',H',V',h,hr'⟩
 |_=>exact hQ _ _ _ _ _ _ hq hr'
theorem PC.region{id:Nat}{l:List Oper}(h:PL P W n l.toArray l F H (Q .normal)):PC P W n (.region id l.toArray false) F H Q:=λV a w Q' hr hQ=>wp_region_lit (h V a w Q' hr λF' H' V' a' w' hk hr'=>hQ _ _ _ _ _ _ hk hr')
theorem wb6{id:Nat}{l:List Oper}(hm:P.follows .mixedOrders=true)(hB:Region.lexB .any l.toArray=true)(h:Qf P W n l.toArray H (λF'=>Q .normal F' H) l F):PC P W n (.region id l.toArray true) F H Q:=λV a w Q' hr hQ=>by
 refine zxz hr hm hB ?_;have mono:∀(l':List Oper)(F:PFrame)(A B:PFrame->Prop),(∀F,A F->B F)->Qf P W n l.toArray H A l' F->Qf P W n l.toArray H B l' F:=by
  intro l';induction l' with
  |nil=>intro F A B hab hh;exact hab F hh
  |cons o l' ih=>
   intro F A B hab hh;obtain⟨hd,⟨hw,p,hp,hk⟩|⟨hw,hk⟩⟩:=hh
   ·exact⟨hd,.inl ⟨hw,p,hp,ih _ A B hab hk⟩⟩
   ·exact⟨hd,.inr ⟨hw,ih _ A B hab hk⟩⟩
 exact mono l F _ _ (λF' hF a' w' hr'=>hQ _ _ _ _ _ _ hF hr') h
theorem wb5{id:Nat}{l:List Oper}(m:Nat)(hm:P.follows .mixedOrders=true)(hB:Region.lexTailB .any l.toArray m=true)(h:Qf P W n l.toArray H (λF'=>PL P W n l.toArray (l.drop m) F' H (Q .normal)) (l.take m) F):PC P W n (.region id l.toArray true) F H Q:=λV a w Q' hr hQ=>by
 refine zxt m hr hm hB ?_;have mono:∀(l':List Oper)(F:PFrame)(A B:PFrame->Prop),(∀F,A F->B F)->Qf P W n l.toArray H A l' F->Qf P W n l.toArray H B l' F:=by
  intro l';induction l' with
  |nil=>intro F A B hab hh;exact hab F hh
  |cons o l' ih=>
   intro F A B hab hh;obtain⟨hd,⟨hw,p,hp,hk⟩|⟨hw,hk⟩⟩:=hh
   ·exact⟨hd,.inl ⟨hw,p,hp,ih _ A B hab hk⟩⟩
   ·exact⟨hd,.inr ⟨hw,ih _ A B hab hk⟩⟩
 exact mono _ F _ _ (λF' hF a' w' hr'=>hF V a' w' Q' hr' λF'' H'' V'' a'' w'' hk hr''=>hQ _ _ _ _ _ _ hk hr'') h
theorem PC.mono{c:Code}{Q':Exit->PFrame->PHeap->Prop}(h:PC P W n c F H Q)(hq:∀e F H,Q e F H->Q' e F H):PC P W n c F H Q':=λV a w Q'' hr hQ=>h V a w Q'' hr λe F' H' V' a' w' hk hr'=>hQ e F' H' V' a' w' (hq _ _ _ hk) hr'
end
def z6(P:Program)(H:PHeap)(F:PFrame):ResultVar->Option PV
 |.tmp t=>some (F t)
 |.cell a t=>yc P H t (F a)
def Qi(P:Program)(fn:Func)(F:PFrame)(H:PHeap):Option PV:=
 match fn.results.toList with
 |[r]=>z6 P H F r
 |l=>(l.mapM (z6 P H F)).map .tup
theorem zsp{V:Nat->Value}{a:Act}{w:World}(hr:Rel P W n F H V a w)(r:ResultVar){p:PV}(h:z6 P H F r=some p):
  ∃v,((match r with|.tmp t=>pure (a.tmps.getD t undef)|.cell x t=>do loadVar t (<- asAddr (a.tmps.getD x undef))):Sem Value).run P w=.ok v w/\Rp W.Z H V w p v:=by
 cases r with
 |tmp t=>cases h;exact⟨_,rfl,hr.slot t⟩
 |cell x t=>
  obtain⟨u,hu,hp⟩:=znh hr.heap (hr.slot x) h;refine⟨u,?_,hp⟩;show(do loadVar t (<- asAddr (a.tmps.getD x undef)):Sem Value).run P w=.ok u w;generalize a.tmps.getD x undef=q at hu⊢;cases q with
  |pointer ad=>
   cases ad with
   |none=>simp[Instr.loadAt,Instr.sureAddr]at hu
   |some ad=>simpa [Instr.loadAt,Instr.sureAddr,asAddr]using hu
  |_=>simp[Instr.loadAt,Instr.sureAddr]at hu
theorem zqp{V:Nat->Value}{a:Act}{w:World}(hr:Rel P W n F H V a w):∀(l:List ResultVar)(ps:List PV),l.mapM (z6 P H F)=some ps ->
  ∃vs,(l.mapM λr=>(match r with|.tmp t=>pure (a.tmps.getD t undef)|.cell x t=>do loadVar t (<- asAddr (a.tmps.getD x undef)):Sem Value)).run P w=.ok vs w/\RpL W.Z H V w ps vs
 |[],ps,h=>by simp at h;subst h;exact⟨[],by simp,rfl,λi p v h=>by simp at h⟩
 |r::l,ps,h=>by
  simp only[wgl,bind_pure_comp,Option.bind_eq_bind]at h;cases h1:z6 P H F r with
  |none=>rw[h1]at h;cases h
  |some p=>
   cases h2:l.mapM (z6 P H F)with
   |none=>rw[h1,h2]at h;cases h
   |some ps'=>
    rw[h1,h2]at h;simp at h;subst h;obtain⟨v,hv,hp⟩:=zsp hr r h1;obtain⟨vs,hvs,hps⟩:=zqp hr l ps' h2;refine⟨v::vs,?_,by simp[hps.1],λi p' v' h3 h4=>?_⟩
    ·rw[wgl,Sem.run_bind,hv];simp only[Result.andThen_ok,Sem.run_bind,hvs,Sem.run_pure]
    ·cases i with
     |zero=>simp at h3 h4;subst h3 h4;exact hp
     |succ i=>exact hps.2 i p' v' (by simpa using h3) (by simpa using h4)
theorem zej{V:Nat->Value}{a:Act}{w:World}(hr:Rel P W n F H V a w){fn:Func}{p:PV}(h:Qi P fn F H=some p):∃v,(results fn a.tmps).run P w=.ok v w/\Rp W.Z H V w p v:=by
 have arrL:∀vs:List Value,(fn.results.toList.mapM λr=>(match r with|.tmp t=>pure (a.tmps.getD t undef)|.cell x t=>do loadVar t (<- asAddr (a.tmps.getD x undef)):Sem Value)).run P w=.ok vs w ->
   (results fn a.tmps).run P w=.ok (if h:vs.toArray.size=1 then vs.toArray[0]else .tuple vs.toArray) w:=λvs hvs=>by
  unfold results;rw[Sem.run_bind,Array.mapM_eq_mapM_toList];simp only[Sem.run_map]
  erw [hvs]
  rfl
 unfold Qi at h;split at h
 ·rename_i r hl;obtain⟨v,hv,hp⟩:=zsp hr r h;have h1:=arrL [v] (by rw[hl,wgl,Sem.run_bind,hv];simp);exact⟨v,by simpa using h1,hp⟩
 ·rename_i hne;obtain⟨ps,hps,rfl⟩:=wee.1 h;obtain⟨vs,hvs,hR⟩:=zqp hr _ ps hps;have h1:=arrL vs hvs;have hlen:¬vs.toArray.size=1:=λe=>by
   have e1:ps.length=1:=by rw[hR.1];simpa using e
   have e2:fn.results.toList.length=ps.length:=by
    have:∀(l:List ResultVar)(ps:List PV),l.mapM (z6 P H F)=some ps->l.length=ps.length:=by
     intro l;induction l with
     |nil=>intro ps h;simp at h;subst h;rfl
     |cons r l ih=>
      intro ps h;simp only[wgl,bind_pure_comp,Option.bind_eq_bind]at h;cases h1:z6 P H F r with
      |none=>rw[h1]at h;cases h
      |some p=>
       cases h2:l.mapM (z6 P H F)with
       |none=>rw[h1,h2]at h;cases h
       |some ps'=>rw[h1,h2]at h;simp at h;subst h;simp[ih ps' h2]
    exact this _ _ hps
   rw[e1]at e2;obtain⟨r,hr⟩:=List.length_eq_one_iff.1 e2;exact hne r hr
  rw[dif_neg hlen]at h1;exact⟨_,h1,.tup _ _ (by simpa using hR.1) λi p v h3 h4=>hR.2 i p v h3 (by simpa using h4)⟩
def V7(as:List PV):PFrame:=λt=>(as[t]?).getD (.u undef)
theorem Rel.enter{Z:ZM}{w:World}{as:List PV}{vs:List Value}(hz:∀b,Z b->b<w.heap.size)(hzm:Z.m<=w.heap.size)(hR:RpL Z PHeap.empty V0 w as vs){m:Nat}(hm:as.length<=m):
  Rel P { w:=w,Z:=Z,hm:=hzm } m (V7 as) PHeap.empty V0 { tmps:=vs.toArray++Array.replicate (m-vs.toArray.size) undef,defers:=[] } w:=by
 have hl:=hR.1;refine⟨⟨Below.refl _ _,λid t k n cs h=>by simp[PHeap.empty]at h,λid t cs h=>by simp[PHeap.empty]at h,λid p cs φ h=>by simp[PHeap.empty]at h,λi=> .unk _,λid id' g h=>by simp[PHeap.empty]at h,hz,λid b h=>by simp[PHeap.empty]at h⟩,by simp;omega,rfl,λt=>?_⟩;unfold V7;by_cases ht:t<as.length
 ·have htv:t<vs.length:=by omega
  have:=hR.2 t _ _ (wd2 ht) (wd2 htv);rw[wd2 ht];simpa [we3,wgt,htv]using this
 ·have htv:¬t<vs.length:=by omega
  rw[wfv (by omega)];have:(vs.toArray++Array.replicate (m-vs.toArray.size) undef).getD t undef=undef:=by
   rw[we3,wgt,if_neg (by simpa using htv),Array.getElem?_replicate];split<;>rfl
  simp only[this,Option.getD_none];exact .u _
def Env.push(W:Env)(F:PFrame)(a:Act):Env:=
 { W with G:=λi=>if i % 2=0 then F (i / 2)else W.G (i / 2),gv:=λi=>if i % 2=0 then a.tmps.getD (i / 2) undef else W.gv (i / 2) }
theorem wdi{o:Oper}{cl:Call}{as:List PV}{f:FuncId}{fn:Func}{c:Code}{k:PV->PHeap->Prop}(hd:jo n o)(ho:o.op=.call cl)(ht:yr F cl=some (f,as))(hg:yx P f=true)(hf:P.funcs[f]?=some fn)(hb:fn.body=some c)(hl:as.length<=fn.ntmps)
  (h:∀W:Env,PC P W fn.ntmps c (V7 as) H λe F' H'=>(e=.normal\/e=.ret)/\∃q,Qi P fn F' H'=some q/\k q H'):PE P W n o F H k:=λV a w hr=>by
 obtain⟨vs,he,hR⟩:=Qz (P:=P) (W:=W) (H:=H) (V:=V) (a:=a) (w:=w) ho ht hg λx hx'=>Rp.eval (P:=P) x λt ht=>hr.slot t;refine zc0 he (calls_of_wp hf hb (h (W.push F a) V _ w _ ?_ λe F' H' V' a' w'⟨he,q,hq,hk⟩ hr'=>?_))
 ·refine⟨⟨hr.heap.below,hr.heap.row,hr.heap.box,hr.heap.map,λi=>?_,hr.heap.apart,hr.heap.zlt,hr.heap.nz⟩,by have:=hR.1;simp;omega,rfl,λt=>?_⟩
  ·simp only[Env.push];split
   ·exact hr.slot _
   ·exact hr.heap.ghost _
  ·unfold V7;have hl2:=hR.1;by_cases ht:t<as.length
   ·have htv:t<vs.length:=by omega
    have:=hR.2 t _ _ (wd2 ht) (wd2 htv);rw[wd2 ht];simpa [Env.push,we3,wgt,htv]using this
   ·have htv:¬t<vs.length:=by omega
    rw[wfv (by omega)];have:(vs.toArray++Array.replicate (fn.ntmps-vs.toArray.size) undef).getD t undef=undef:=by
     rw[we3,wgt,if_neg (by simpa using htv),Array.getElem?_replicate];split<;>rfl
    simp only[this,Option.getD_none];exact .u _
 ·obtain⟨v,hrun,hqv⟩:=zej hr' hq;have hs:∀t,Rp W.Z H' V' w' (F t) (a.tmps.getD t undef):=λt=>by
   have:=hr'.heap.ghost (2*t);simp only[Env.push,Nat.mul_mod_right,if_true]at this;rwa [show 2*t / 2=t by omega]at this
  have hgh:∀i,Rp W.Z H' V' w' (W.G i) (W.gv i):=λi=>by
   have:=hr'.heap.ghost (2*i+1);simp only[Env.push,show ¬((2*i+1) % 2=0) by omega,if_false]at this;rwa [show(2*i+1) / 2=i by omega]at this
  have hrel:Rel P W n F H' V' a w':=⟨⟨hr'.heap.below,hr'.heap.row,hr'.heap.box,hr'.heap.map,hgh,hr'.heap.apart,hr'.heap.zlt,hr'.heap.nz⟩,hr.size,hr.defers,hs⟩
  have hput:=hrel.put (Below.refl _ _) o.dst hd hqv;rcases he with rfl|rfl
  ·exact⟨hr'.defers,v,hrun,v,rfl,q,H',V',hk,hput⟩
  ·exact⟨hr'.defers,v,hrun,v,rfl,q,H',V',hk,hput⟩
theorem wco{f:FuncId}{fn:Func}{c:Code}{as:List PV}{R:PV->Prop}(hf:P.funcs[f]?=some fn)(hb:fn.body=some c)(hl:as.length<=fn.ntmps)
  (h:∀W:Env,PC P W fn.ntmps c (V7 as) PHeap.empty λe F H=>(e=.normal\/e=.ret)/\∃q p,Qi P fn F H=some q/\View H q p/\NoP p/\R p):PCall P f as R:=λZ w vs hz hzm hR=>by
 refine calls_of_wp hf hb (h { w:=w,Z:=Z,hm:=hzm } V0 _ w _ (Rel.enter hz hzm hR hl) λe F' H' V' a' w'⟨he,q,p,hq,hv,hn,hp⟩ hr=>?_);obtain⟨v,hrun,hqv⟩:=zej hr hq;have:=hv P _ V' w' hr.heap v hqv;rcases he with rfl|rfl
 ·exact⟨hr.defers,v,hrun,v,p,rfl,hp,hn,this,hr.heap.below⟩
 ·exact⟨hr.defers,v,hrun,v,p,rfl,hp,hn,this,hr.heap.below⟩
end
def jj(P:Program)(n:Nat)(H:PHeap)(o:Oper)(F:PFrame)(k:PFrame->Prop):Prop:=jo n o/\(jr P H F o).elim False λp=>k (F.put o.dst p)
def stepG(P:Program)(n:Nat)(H:PHeap)(o:Oper)(F:PFrame)(d:Nat)(want:Bool)(k:PFrame->Prop):Prop:=jo n o /\
 match F d with
 |.u (.bool b)=>if(b == want)=true then(jr P H F o).elim False λp=>k (F.put o.dst p)else k (F.put o.dst (.u undef))
 |.u (.tuple _)=>k (F.put o.dst (.u undef))
 |_=>False
section
variable{P:Program}{W:Env}{n:Nat}{H:PHeap}{F:PFrame}{ops:Array Oper}{o:Oper}{l:List Oper}
theorem PL.k{K:PFrame->PHeap->Prop}(hg:o.guard=none)(h:∀KK:PFrame->Prop,(∀F',PL P W n ops l F' H K->KK F')->jj P n H o F KK):PL P W n ops (o::l) F H K:=by
 obtain⟨hd,hk⟩:=h (λF'=>PL P W n ops l F' H K) λ_ h=>h;refine PL.cons (by unfold qb;rw[hg]) ?_;cases hp:jr P H F o with
 |none=>rw[hp]at hk;exact hk.elim
 |some p=>rw[hp]at hk;exact wak hd (jh hp) hk
theorem PL.g{K:PFrame->PHeap->Prop}{j d:Nat}{want:Bool}(hg:o.guard=some (j,want))(hj:(ops[j]?).bind (·.dst)=some d)(h:∀KK:PFrame->Prop,(∀F',PL P W n ops l F' H K->KK F')->stepG P n H o F d want KK):PL P W n ops (o::l) F H K:=by
 obtain⟨hd,hk⟩:=h (λF'=>PL P W n ops l F' H K) λ_ h=>h;have hw:qb ops o F=match F d with|.u (.bool b)=>some (b == want)|.u (.tuple _)=>some false|_=>none:=by
  unfold qb;rw[hg];simp only[hj]<;>rfl
 split at hk
 ·rename_i b hb;rw[hb]at hw;simp only at hw;split at hk
  ·rename_i hbw;refine PL.cons (by rw[hw,hbw]) ?_;cases hp:jr P H F o with
   |none=>rw[hp]at hk;exact hk.elim
   |some p=>rw[hp]at hk;exact wak hd (jh hp) hk
  ·rename_i hbw;exact PL.skip (by rw[hw];simpa using hbw) hd hk
 ·rename_i hb;rw[hb]at hw;exact PL.skip hw hd hk
 ·exact hk.elim
theorem QF.k{Q:PFrame->Prop}(hg:o.guard=none)(h:∀KK:PFrame->Prop,(∀F',Qf P W n ops H Q l F'->KK F')->jj P n H o F KK):Qf P W n ops H Q (o::l) F:=by
 obtain⟨hd,hk⟩:=h (λF'=>Qf P W n ops H Q l F') λ_ h=>h;refine⟨hd,.inl ⟨by unfold qb;rw[hg],?_⟩⟩;cases hp:jr P H F o with
 |none=>rw[hp]at hk;exact hk.elim
 |some p=>rw[hp]at hk;exact⟨p,jh hp,hk⟩
theorem QF.g{Q:PFrame->Prop}{j d:Nat}{want:Bool}(hg:o.guard=some (j,want))(hj:(ops[j]?).bind (·.dst)=some d)(h:∀KK:PFrame->Prop,(∀F',Qf P W n ops H Q l F'->KK F')->stepG P n H o F d want KK):Qf P W n ops H Q (o::l) F:=by
 obtain⟨hd,hk⟩:=h (λF'=>Qf P W n ops H Q l F') λ_ h=>h;have hw:qb ops o F=match F d with|.u (.bool b)=>some (b == want)|.u (.tuple _)=>some false|_=>none:=by
  unfold qb;rw[hg];simp only[hj]<;>rfl
 refine⟨hd,?_⟩;split at hk
 ·rename_i b hb;rw[hb]at hw;simp only at hw;split at hk
  ·rename_i hbw;refine .inl ⟨by rw[hw,hbw],?_⟩;cases hp:jr P H F o with
   |none=>rw[hp]at hk;exact hk.elim
   |some p=>rw[hp]at hk;exact⟨p,jh hp,hk⟩
  ·rename_i hbw;exact .inr ⟨by rw[hw];simpa using hbw,hk⟩
 ·rename_i hb;rw[hb]at hw;exact .inr ⟨hw,hk⟩
 ·exact hk.elim
theorem QF.nil{Q:PFrame->Prop}(h:Q F):Qf P W n ops H Q [] F:=h
theorem QF.call{Q:PFrame->Prop}{p0:PV}(hg:o.guard=none)(hd:jo n o)(hq:PQ P W o F H p0)(h:Qf P W n ops H Q l (F.put o.dst p0)):Qf P W n ops H Q (o::l) F:=
 ⟨hd,.inl ⟨by unfold qb;rw[hg],p0,hq,h⟩⟩
theorem waz{K:PFrame->PHeap->Prop}(hg:o.guard=none)(h:PE P W n o F H λp H'=>PL P W n ops l (F.put o.dst p) H' K):PL P W n ops (o::l) F H K:=PL.cons (by unfold qb;rw[hg]) h
end
section
variable{P:Program}{n:Nat}{H:PHeap}{F:PFrame}{d ty:Nat}{pos:String}{af:Array Edge}{g:Option (Nat × Bool)}
@[go_sem] theorem dstOk_some {op:Op}:jo n ⟨some d,op,ty,pos,af,g⟩=(d<n):=by simp[jo]
@[go_sem] theorem dstOk_none {op:Op}:jo n ⟨none,op,ty,pos,af,g⟩=True:=by simp[jo]
@[go_sem] theorem put_app (p:PV) (t:Nat):PFrame.put F (some d) p t=if d=t then p else F t:=by simp[PFrame.put]
@[go_sem] theorem put_none (p:PV):PFrame.put F none p=F:=by funext t;simp[PFrame.put]
@[go_sem] theorem elim_some {α β:Type}(a:α) (b:β) (f:α->β):(some a).elim b f=f a:=rfl
@[go_sem] theorem frame0_app (as:List PV) (t:Nat):V7 as t=(as[t]?).getD (.u undef):=rfl
@[go_sem] theorem evP_tmp (t:Nat):evP F (.tmp t)=F t:=rfl
@[go_sem] theorem evP_func (f:Nat):evP F (.func f)=.fn (.func f) [] []:=rfl
@[go_sem] theorem evP_int (k:IntKind) (z:Int):evP F (.const (.int k z))=.u (.int k z):=rfl
@[go_sem] theorem evP_bool (b:Bool):evP F (.const (.bool b))=.u (.bool b):=rfl
@[go_sem] theorem evP_nil (a:Option Addr) (l c:Nat):evP F (.const (.slice a l c))=.u (.slice a l c):=rfl
@[go_sem] theorem pstep_move (x:Operand):jr P H F ⟨some d,.move x,ty,pos,af,g⟩=some (evP F x):=rfl
@[go_sem] theorem pstep_assign (x:Operand):jr P H F ⟨some d,.assign x,ty,pos,af,g⟩=some (evP F x):=rfl
def z8f(c a b:PV):Option PV:=match c with
 |.u (.bool t)=>some (if t=true then a else b)
 |_=>none
@[go_sem] theorem pstep_pick (c a b:Operand):jr P H F ⟨some d,.pick c a b,ty,pos,af,g⟩=z8f (evP F c) (evP F a) (evP F b):=by
 unfold jr z8f;simp only<;>split<;>simp_all
@[go_sem] theorem pickP_b (t:Bool) (a b:PV):z8f (.u (.bool t)) a b=some (if t=true then a else b):=rfl
@[go_sem] theorem z1e (op:BinOp) (t t':Nat) (x y:Operand):jr P H F ⟨some d,.binOp op t x y t',ty,pos,af,g⟩=zwz P H F op t x y:=rfl
@[go_sem] theorem binQ_tmp (op:BinOp) (t:Nat) (x:Operand) (y:Nat):zwz P H F op t x (.tmp y)=yg P op t x (.tmp y) (evP F x) (F y):=rfl
@[go_sem] theorem binQ_int (op:BinOp) (t:Nat) (x:Operand) (k:IntKind) (z:Int):zwz P H F op t x (.const (.int k z))=yg P op t x (.const (.int k z)) (evP F x) (.u (.int k z)):=rfl
@[go_sem] theorem z1v (op:UnOp) (t:Nat) (x:Operand):jr P H F ⟨some d,.unOp op t x,ty,pos,af,g⟩=unP P op (evP F x):=rfl
@[go_sem] theorem V9 (t:Nat) (x:Operand):jr P H F ⟨some d,.load t x,ty,pos,af,g⟩=yc P H t (evP F x):=rfl
@[go_sem] theorem zo2 (s f:Nat) (x:Operand):jr P H F ⟨some d,.fieldAddr s x f,ty,pos,af,g⟩=fieldAddrP P H s f (evP F x):=rfl
@[go_sem] theorem zau (t:Nat) (x i:Operand):jr P H F ⟨some d,.indexAddr t x i,ty,pos,af,g⟩=indexAddrP P H t (evP F x) (evP F i):=rfl
@[go_sem] theorem pstep_slice (t:Nat) (x:Operand) (lo hi:Option Operand):jr P H F ⟨some d,.slice t x lo hi none,ty,pos,af,g⟩=zeu P t (evP F x) (lo.map (evP F)) (hi.map (evP F)):=rfl
def extP(p:PV)(i:Nat):Option PV:=match p with
 |.tup cs=>cs[i]?
 |_=>none
@[go_sem] theorem pstep_extract (x:Operand) (i:Nat):jr P H F ⟨some d,.extract x i,ty,pos,af,g⟩=extP (evP F x) i:=by
 unfold jr extP;simp only<;>split<;>simp_all
@[go_sem] theorem extP_t (cs:List PV) (i:Nat):extP (.tup cs) i=cs[i]?:=rfl
@[go_sem] theorem pstep_build (t:Nat) (ps:Array (Nat×Operand)):jr P H F ⟨some d,.build t ps,ty,pos,af,g⟩=zm2 P H t (ps.toList.map λx=>(x.1,evP F x.2)):=rfl
@[go_sem] theorem zr7 (f:Fn) (a b:Array Operand):jr P H F ⟨some d,.makeFunc f a b,ty,pos,af,g⟩=some (.fn f (a.toList.map (evP F)) (b.toList.map (evP F))):=rfl
@[go_sem] theorem zu1 (x:Operand) (t:Nat):jr P H F ⟨some d,.call { callee :=.builtin .len,args:=#[x],argTypes:=#[t] },ty,pos,af,g⟩=lenP P H t (evP F x):=rfl
variable{t:Nat}{x y:Operand}{k:IntKind}{a b:Int}
theorem zea{a:Int}(h1 : -9223372036854775808<=a)(h2:a<=9223372036854775807):IntKind.i64.wrap a=a:=by rw[IntKind.wrap_i64];omega
theorem zlu:yg P .add t x y (.u (.int k a)) (.u (.int k b))=some (.u (.int k (k.wrap (a+b)))):=by simp[yg,PV.val2,eqGuard,binOp,qi,qk,Op.intArith,ofV]
theorem zvs:yg P .sub t x y (.u (.int k a)) (.u (.int k b))=some (.u (.int k (k.wrap (a-b)))):=by simp[yg,PV.val2,eqGuard,binOp,qi,qk,Op.intArith,ofV]
theorem zvw:yg P .mul t x y (.u (.int k a)) (.u (.int k b))=some (.u (.int k (k.wrap (a*b)))):=by simp[yg,PV.val2,eqGuard,binOp,qi,qk,Op.intArith,ofV]
@[go_sem] theorem binP_add (h1 : -9223372036854775808<=a+b) (h2:a+b<=9223372036854775807):yg P .add t x y (.u (.int .i64 a)) (.u (.int .i64 b))=some (.u (.int .i64 (a+b))):=by rw[zlu,zea h1 h2]
@[go_sem] theorem binP_sub (h1 : -9223372036854775808<=a-b) (h2:a-b<=9223372036854775807):yg P .sub t x y (.u (.int .i64 a)) (.u (.int .i64 b))=some (.u (.int .i64 (a-b))):=by rw[zvs,zea h1 h2]
@[go_sem] theorem binP_mul (h1 : -9223372036854775808<=a*b) (h2:a*b<=9223372036854775807):yg P .mul t x y (.u (.int .i64 a)) (.u (.int .i64 b))=some (.u (.int .i64 (a*b))):=by rw[zvw,zea h1 h2]
@[go_sem] theorem z8x:yg P .eql t x y (.u (.int k a)) (.u (.int k b))=some (.u (.bool (decide (a=b)))):=by simp[yg,PV.val2,eqGuard,binOp,qi,qk,Op.intCmp,ofV];rfl
@[go_sem] theorem z97:yg P .neq t x y (.u (.int k a)) (.u (.int k b))=some (.u (.bool (decide (¬a=b)))):=by simp[yg,PV.val2,eqGuard,binOp,qi,qk,Op.intCmp,ofV];rfl
@[go_sem] theorem zdv:yg P .lss t x y (.u (.int k a)) (.u (.int k b))=some (.u (.bool (decide (a<b)))):=by simp[yg,PV.val2,eqGuard,binOp,qi,qk,Op.intCmp,ofV]
@[go_sem] theorem z9m:yg P .leq t x y (.u (.int k a)) (.u (.int k b))=some (.u (.bool (decide (a<=b)))):=by simp[yg,PV.val2,eqGuard,binOp,qi,qk,Op.intCmp,ofV]
@[go_sem] theorem z1p:yg P .gtr t x y (.u (.int k a)) (.u (.int k b))=some (.u (.bool (decide (b<a)))):=by simp[yg,PV.val2,eqGuard,binOp,qi,qk,Op.intCmp,ofV]
@[go_sem] theorem zqw:yg P .geq t x y (.u (.int k a)) (.u (.int k b))=some (.u (.bool (decide (b<=a)))):=by simp[yg,PV.val2,eqGuard,binOp,qi,qk,Op.intCmp,ofV]
@[go_sem] theorem z5b (b:Bool):unP P .not (.u (.bool b))=some (.u (.bool (!b))):=by simp[unP,PV.val2,Op.unary,qk,ofV]
@[go_sem] theorem z7t (s u:ByteArray):yg P .eql t x y (.u (.string s)) (.u (.string u))=some (.u (.bool (s.toList == u.toList))):=by simp[yg,PV.val2,eqGuard,binOp,qi,qk,Op.stringOp,ofV]
@[go_sem] theorem z6p (s u:ByteArray):yg P .neq t x y (.u (.string s)) (.u (.string u))=some (.u (.bool (!(s.toList == u.toList)))):=by simp[yg,PV.val2,eqGuard,binOp,qi,qk,Op.stringOp,ofV]
@[go_sem] theorem jer {k:Nat}(xs:List PV) (h:y7 P t=true):lenP P H t (.sl k xs)=some (.u (.int .i64 xs.length)):=by simp[lenP,h]
@[go_sem] theorem lenP_ps (id ver:Nat) (h:y7 P t=true):lenP P H t (.ps id ver)=(qm H id ver).elim none λq=>some (.u (.int .i64 q.2.2.1)):=by simp only[lenP,h,if_true];cases qm H id ver<;>rfl
@[go_sem] theorem zh9 (cs:List PV):yc P H t (.rp cs)=(asz P t).elim none λq=>qw q.1 q.2 cs:=by unfold yc;cases asz P t<;>rfl
@[go_sem] theorem zcf (id off ver:Nat):yc P H t (.pp id off ver)=(asz P t).elim none λq=>(jl H id ver).elim none λcs=>qw q.1 q.2 (cs.drop off):=by
 unfold yc;cases asz P t with
 |none=>rfl
 |some q=>obtain⟨a,b⟩:=q;simp only[Option.elim];cases jl H id ver<;>rfl
@[go_sem] theorem zgc (k:Nat) (cs:List PV):qw false k cs=cs[0]?:=rfl
@[go_sem] theorem zrs (k:Nat) (cs:List PV) (h:k<=cs.length):qw true k cs=some (.agg (cs.take k)):=by simp[qw,h]
@[go_sem] theorem zsw {s f:Nat}(cs:List PV):fieldAddrP P H s f (.rp cs)=(fof P s f).elim none λq=>(asz P q.2).elim none λr=>if r.2=0 then none else some (.rp (cs.drop q.1)):=by
 unfold fieldAddrP;cases fof P s f with
 |none=>rfl
 |some q=>obtain⟨a,b⟩:=q;simp only[Option.elim];cases asz P b<;>rfl
@[go_sem] theorem fieldAddrP_pp {s f:Nat}(id o ver:Nat):fieldAddrP P H s f (.pp id o ver)=(fof P s f).elim none λq=>(asz P q.2).elim none λr=>if r.2=0 then none else(jl H id ver).elim none λ_=>some (.pp id (o+q.1) ver):=by
 unfold fieldAddrP;cases fof P s f with
 |none=>rfl
 |some q=>obtain⟨a,b⟩:=q;simp only[Option.elim];cases asz P b<;>cases jl H id ver<;>rfl
@[go_sem] theorem ztc {k:Nat}(h:esz P t=some k) (kd:IntKind) (z:Int) (h0:0<=z) (xs:List PV):indexAddrP P H t (.sl k xs) (.u (.int kd z))=(xs[z.toNat]?).elim none λy=>some (.rp y.cells):=by simp only[indexAddrP,h,h0,if_true];cases xs[z.toNat]?<;>rfl
@[go_sem] theorem zh2 {id ver:Nat}(kd:IntKind) (z:Int) (h0:0<=z):indexAddrP P H t (.ps id ver) (.u (.int kd z))=(qm H id ver).elim none λq=>if esz P t=some q.2.1/\z.toNat<q.2.2.1 then some (.pp id (z.toNat*q.2.1) ver)else none:=by simp only[indexAddrP,h0,if_true];cases qm H id ver<;>rfl
@[go_sem] theorem cells_agg (cs:List PV):(PV.agg cs).cells=cs:=rfl
@[go_sem] theorem cells_u (v:Value):(PV.u v).cells=[.u v]:=rfl
@[go_sem] theorem cells_sl (k:Nat) (xs:List PV):(PV.sl k xs).cells=[.sl k xs]:=rfl
@[go_sem] theorem cells_ps (id ver:Nat):(PV.ps id ver).cells=[.ps id ver]:=rfl
def lcP:zcb->Nat->Option (List PV)
 |⟨v,some (.row _ _ _ cs)⟩,ver=>if v=ver then some cs else none
 |⟨v,some (.box _ cs)⟩,ver=>if v=ver then some cs else none
 |_,_=>none
def lrP:zcb->Nat->Option (TypeId×Nat×Nat×List PV)
 |⟨v,some (.row t k n cs)⟩,ver=>if v=ver then some (t,k,n,cs)else none
 |_,_=>none
@[go_sem] theorem J6 (id ver:Nat):jl H id ver=lcP (H id) ver:=by
 unfold jl;generalize H id=b;obtain⟨v,bd⟩:=b;cases bd with
 |none=>rfl
 |some bd=>cases bd<;>rfl
@[go_sem] theorem zaj (id ver:Nat):qm H id ver=lrP (H id) ver:=by
 unfold qm;generalize H id=b;obtain⟨v,bd⟩:=b;cases bd with
 |none=>rfl
 |some bd=>cases bd<;>rfl
@[go_sem] theorem zpf (v ver e k m:Nat) (cs:List PV):lcP ⟨v,some (.row e k m cs)⟩ ver=if v=ver then some cs else none:=rfl
@[go_sem] theorem z39 (v ver e:Nat) (cs:List PV):lcP ⟨v,some (.box e cs)⟩ ver=if v=ver then some cs else none:=rfl
@[go_sem] theorem zjc (v ver e k m:Nat) (cs:List PV):lrP ⟨v,some (.row e k m cs)⟩ ver=if v=ver then some (e,k,m,cs)else none:=rfl
end
theorem wah{P:Program}{W:Env}{n:Nat}{F:PFrame}{H:PHeap}{Q:Exit->PFrame->PHeap->Prop}{c:Operand}{x y:Code}(hc:evP F c=.u (.bool true))(h:PC P W n x F H Q):PC P W n (.cond c x y) F H Q:=PC.cond hc (λ_=>h) (λe=>by cases e)
theorem wag{P:Program}{W:Env}{n:Nat}{F:PFrame}{H:PHeap}{Q:Exit->PFrame->PHeap->Prop}{c:Operand}{x y:Code}(hc:evP F c=.u (.bool false))(h:PC P W n y F H Q):PC P W n (.cond c x y) F H Q:=PC.cond hc (λe=>by cases e) (λ_=>h)
theorem PL.done{P:Program}{W:Env}{n:Nat}{F:PFrame}{H:PHeap}{ops:Array Oper}{K K':PFrame->PHeap->Prop}(hK:∀F H,K' F H->K F H)(h:K' F H):PL P W n ops [] F H K:=PL.nil (hK _ _ h)
theorem waf{P:Program}{f:FuncId}{fn:Func}{c:Code}{n:Nat}{as:List PV}{R:PV->Prop}(hf:P.funcs[f]?=some fn)(hb:fn.body=some c)(hn:fn.ntmps=n)(hl:as.length<=n)
  (h:∀W:Env,PC P W n c (V7 as) PHeap.empty λe F H=>(e=.normal\/e=.ret)/\∃q p,Qi P fn F H=some q/\View H q p/\NoP p/\R p):PCall P f as R:=by
 subst hn;exact wco hf hb hl h
abbrev I(z:Int):PV :=.u (.int .i64 z)
abbrev B(b:Bool):PV :=.u (.bool b)
abbrev S(s:ByteArray):PV :=.u (.string s)
abbrev U8(b:Int):PV :=.u (.int .u8 b)
@[go_sem] theorem NoP_u (v:Value):NoP (.u v)=True:=eq_true (.u v)
@[go_sem] theorem NoP_agg (cs:List PV):NoP (.agg cs) = ∀c∈cs,NoP c:=propext ⟨λh=>by cases h with|agg _ h=>exact h,.agg cs⟩
@[go_sem] theorem View_refl {H:PHeap}{p:PV}(h:NoP p):View H p p=True:=eq_true (View.noP h)
@[go_sem] theorem ViewL_nil {H:PHeap}:ViewL H [] []=True:=eq_true (ViewL.nil H)
@[go_sem] theorem ViewL_cons {H:PHeap}(p q:PV) (ps qs:List PV):ViewL H (p::ps) (q::qs)=(View H p q/\ViewL H ps qs):=propext ⟨λh=>⟨h.2 0 p q rfl rfl,by have:=h.1;simpa using this,λi a b h1 h2=>h.2 (i+1) a b (by simpa using h1) (by simpa using h2)⟩,λh=> .cons h.1 h.2⟩
section
variable{P:Program}{W:Env}{n:Nat}{H:PHeap}{F:PFrame}{ops:Array Oper}{o:Oper}{l:List Oper}
theorem Yg(f:FuncId)(args:Array Operand)(ts:Array TypeId):yr F ⟨.value (.func f),args,ts⟩=some (f,args.toList.map (evP F)):=by simp[yr,evP]
theorem waj{K:PFrame->PHeap->Prop}{f:FuncId}{args:Array Operand}{ts:Array TypeId}{qs:List PV}{p0:PV}(hg:o.guard=none)(ho:o.op=.call ⟨.value (.func f),args,ts⟩)(hf:yx P f=true)(hc:PCall P f qs (· = p0))(hd:jo n o)(hn:∀p∈args.toList.map (evP F),NoP p)(hv:ViewL PHeap.empty (args.toList.map (evP F)) qs)
  (h:PL P W n ops l (F.put o.dst p0) H K):PL P W n ops (o::l) F H K:=
 waz hg (wdw hd ho (Yg f args ts) hf hv hn hc λp e=>by subst e;exact h)
theorem wcv{Q:PFrame->Prop}{f:FuncId}{args:Array Operand}{ts:Array TypeId}{qs:List PV}{p0:PV}(hg:o.guard=none)(ho:o.op=.call ⟨.value (.func f),args,ts⟩)(hf:yx P f=true)(hc:PCall P f qs (· = p0))(hd:jo n o)(hn:∀p∈args.toList.map (evP F),NoP p)(hv:ViewL PHeap.empty (args.toList.map (evP F)) qs)
  (h:Qf P W n ops H Q l (F.put o.dst p0)):Qf P W n ops H Q (o::l) F:=QF.call hg hd (wbv ho (Yg f args ts) hf hv hn hc) h
theorem fin{fn:Func}{e:Exit}{p0:PV}(he:e=.normal\/e=.ret)(h:Qi P fn F H=some p0)(hn:NoP p0):(e=.normal\/e=.ret)/\∃q p,Qi P fn F H=some q/\View H q p/\NoP p/\p=p0:=⟨he,p0,p0,h,View.noP hn,hn,rfl⟩
end
section
variable{P:Program}{W:Env}{n:Nat}{H:PHeap}{F:PFrame}
def PIn(P:Program)(f:FuncId)(as:List PV)(H:PHeap)(R:PV->PHeap->Prop):Prop:=
 ∃fn c,P.funcs[f]?=some fn/\fn.body=some c/\as.length<=fn.ntmps/\yx P f=true /\
  ∀W:Env,PC P W fn.ntmps c (V7 as) H λe F' H'=>(e=.normal\/e=.ret)/\∃q,Qi P fn F' H'=some q/\R q H'
theorem wbx{f:FuncId}{fn:Func}{c:Code}{m:Nat}{as:List PV}{R:PV->PHeap->Prop}(hf:P.funcs[f]?=some fn)(hb:fn.body=some c)(hn:fn.ntmps=m)(hl:as.length<=m)(hg:yx P f=true)
  (h:∀W:Env,PC P W m c (V7 as) H λe F' H'=>(e=.normal\/e=.ret)/\∃q,Qi P fn F' H'=some q/\R q H'):PIn P f as H R:=by
 subst hn;exact⟨fn,c,hf,hb,hl,hg,h⟩
theorem PE.inl{o:Oper}{c:Call}{as:List PV}{f:FuncId}{R:PV->PHeap->Prop}{k:PV->PHeap->Prop}(hc:PIn P f as H R)(hd:jo n o)(ho:o.op=.call c)(ht:yr F c=some (f,as))(hk:∀q H',R q H'->k q H'):PE P W n o F H k:=by
 obtain⟨fn,cb,h1,h2,h3,h4,h5⟩:=hc;exact wdi hd ho ht h4 h1 h2 h3 λW'=>(h5 W').mono λe F' H'⟨he,q,hq,hR⟩=>⟨he,q,hq,hk q H' hR⟩
theorem PL.inl{ops:Array Oper}{o:Oper}{l:List Oper}{K:PFrame->PHeap->Prop}{c:Call}{as:List PV}{f:FuncId}{R:PV->PHeap->Prop}(hg:o.guard=none)(ho:o.op=.call c)(hc:PIn P f as H R)(hd:jo n o)(ht:yr F c=some (f,as))
  (h:∀q H',R q H'->PL P W n ops l (F.put o.dst q) H' K):PL P W n ops (o::l) F H K:=waz hg (PE.inl hc hd ho ht h)
theorem wdu{o:Oper}{t e:TypeId}{x y:Operand}{d id ver k m j:Nat}{kd:IntKind}{cs:List PV}{K:PV->PHeap->Prop}(ho:o.op=.slice t x none (some y) none)(hd:o.dst=some d)(hdn:d<n)(ht:esz P t=some k)(hx:evP F x=.ps id ver)(hl:qm H id ver=some (e,k,m,cs))(hy:evP F y=.u (.int kd (j:Int)))(hj:j<=m)
  (hk:K (.ps id (ver+1)) (H.set id ⟨ver+1,some (.row e k j (cs.take (j*k)))⟩)):PE P W n o F H K:=λV a w hr=>by
 obtain⟨e',ti,hu,hti,rfl⟩:=zac ht;obtain⟨hb,hve⟩:=vy hl;have hxv:a.eval x=V id:=by
  have:=Rp.eval (P:=P) (F:=F) (a:=a) (Z:=W.Z) (H:=H) (V:=V) (w:=w) x λt _=>hr.slot t;rw[hx]at this;generalize a.eval x=q at this;cases this with
  |ps _ _ _ hvv hh=>exact hh (by rw[hb];rfl) hve
 have hyv:a.eval y=.int kd j:=by
  have:=Rp.eval (P:=P) (F:=F) (a:=a) (Z:=W.Z) (H:=H) (V:=V) (w:=w) y λt _=>hr.slot t;rw[hy]at this;generalize a.eval y=q at this;cases this;rfl
 obtain⟨vals,hown,hR,h1⟩:=hr.heap.row id e _ m cs hb;have key:∃v',(execOp a.eval o).run P w=.ok (.value v') w/\w.ownsRow W.w.heap.size e ti.size v' j (vals.take (j*ti.size))/\qc v'=qc (V id):=by
  have hlen:(vals.take (j*ti.size)).length=j*ti.size:=by
   rw[wfg,hown.1];exact Nat.min_eq_left (wgg _ hj)
  rcases hown.2 with⟨e1,rfl⟩|⟨g,cap,cur,e1,hg,hh,hcap,hmax,hsz,htake⟩
  ·have hj0:j=0:=by omega
   subst hj0;refine⟨.slice none 0 0,?_,⟨hlen,.inl ⟨rfl,rfl⟩⟩,by rw[e1]⟩;have hbd:=yo (P:=P) (w:=w) (isS:=true) (len:=0) (cap:=0) (l:=0) (h:=0) (lo:=none) (hi:=some (.int kd (0:Nat))) (.inl ⟨rfl,rfl⟩) (.inr ⟨kd,_,rfl,by simp,by simp⟩) (weh _) (weh _);simp only[execOp,ho];simp[hxv,hyv,e1,Instr.sliceAt,Instr.slice,run_underlying hu,hbd,sizeOf,typeInfo,hti]at hbd⊢
  ·refine⟨.slice (some ⟨g,0,none⟩) j cap,?_,⟨hlen,.inr ⟨g,cap,cur,rfl,hg,hh,by omega,hmax,hsz,?_⟩⟩,by rw[e1];rfl⟩
   ·have hbd:=yo (P:=P) (w:=w) (isS:=true) (len:=m) (cap:=cap) (l:=0) (h:=j) (lo:=none) (hi:=some (.int kd (j:Nat))) (.inl ⟨rfl,rfl⟩) (.inr ⟨kd,_,rfl,by simp,by simp⟩) (wgm _) (by omega);simp only[execOp,ho];simp[hxv,hyv,e1,Instr.sliceAt,Instr.slice,run_underlying hu,hbd,sizeOf,typeInfo,hti];by_cases hc:cap=0
    ·simp[hc]
    ·simp[hc,zq]
   ·rw[<- htake,List.take_take,Nat.min_eq_left (wgg _ hj)]
 obtain⟨v',hrun,hown',hblk⟩:=key;have hturn:Turn W H V w id ⟨ver+1,some (.row e ti.size j (cs.take (j*ti.size)))⟩ v' w:=by
  refine⟨hr.heap.below,weh _,λ_ _ _=>rfl,λg hg=> .inr ⟨by rw[hb];rfl,by rw[<- hblk];exact hg⟩,.inl (by show(H id).ver<ver+1;omega)⟩
 refine yh hrun ⟨_,_,yf V id v',hk,?_⟩;rw[hd];refine hr.turn hturn (λbd hbd=>?_) (some d) (λt ht=>by cases ht;exact hdn) ?_
 ·cases hbd;refine⟨_,hown',⟨by simp[hR.1],λi p v h3 h4=>?_⟩,λu hu'=>h1 u (wgi hu')⟩;rw[wfm]at h3 h4;split at h3
  ·rename_i hi;rw[if_pos hi]at h4;exact hturn.rp (hR.2 i p v h3 h4)
  ·cases h3
 ·refine .ps _ _ _ ?_ λ_ _=>?_
  ·simp[PHeap.set]
  ·simp[yf]
end
section
variable{P:Program}{W:Env}{n:Nat}{H:PHeap}{ops:Array Oper}
def zpa(Q:Exit->Act->World->Prop):Exit->Act->World->Prop
 |.panic _,_,_=>False
 |e,a,w=>Q e a w
theorem Q0{Q Q':Exit->Act->World->Prop}(hq:∀e a w,Q e a w->Q' e a w):∀(fuel:Nat)(listed:Array Bool)(a:Act)(w:World),wpAny P .any ops Q fuel listed a w->wpAny P .any ops Q' fuel listed a w
 |0,_,_,_,h=>⟨h.1,hq _ _ _ h.2⟩
 |fuel+1,listed,a,w,h=>⟨λh0=>hq _ _ _ (h.1 h0),λi hi=>by
  have h1:=h.2 i hi;unfold wpOp at *;split
  ·rename_i ho;simp only[ho]at h1;exact Q0 hq fuel _ _ _ h1
  ·rename_i o ho;simp only[ho]at h1;split
   ·rename_i hw;simp only[hw,if_true]at h1;rcases h1 with h1|⟨h2,h3⟩
    ·left;unfold Oper.wp at *;generalize (execOp a.eval o).run P w=r at *;cases r with
     |ok nx w'=>
      cases nx<;>simp only[Oper.upon]at h1⊢
      case value u=>exact Q0 hq fuel _ _ _ h1
      case skip=>exact Q0 hq fuel _ _ _ h1
      case defer d=>exact Q0 hq fuel _ _ _ h1
      case enter f args=>
       refine h1.mono λe w'' he=>?_;cases e with
       |returned v=>exact Q0 hq fuel _ _ _ he
       |panicked c=>exact hq _ _ _ he
       |outgrown=>obtain⟨a',w',hh⟩:=he;exact⟨a',w',hq _ _ _ hh⟩
      case row row args=>exact h1.mono λv w'' he=>Q0 hq fuel _ _ _ he
     |halt x w'=>
      cases x<;>simp only[Oper.upon]at h1⊢;exact hq _ _ _ h1
    ·exact .inr ⟨h2,by obtain⟨a',w',hh⟩:=h3;exact⟨a',w',hq _ _ _ hh⟩⟩
   ·rename_i hw;simp only[hw]at h1;exact Q0 hq fuel _ _ _ h1⟩
end
section
variable{H:PHeap}
@[go_sem] theorem okC_u (v:Value):okC H (.u v)=v.oneCell':=rfl
@[go_sem] theorem okC_agg (xs:List PV):okC H (.agg xs)=xs.all (qh H):=rfl
@[go_sem] theorem leafOk_u (v:Value):qh H (.u v)=v.oneCell':=rfl
@[go_sem] theorem leafOk_sl (k:Nat) (xs:List PV):qh H (.sl k xs)=true:=rfl
@[go_sem] theorem oneCell'_int (k:IntKind) (z:Int):(Value.int k z).oneCell'=true:=rfl
@[go_sem] theorem oneCell'_bool (b:Bool):(Value.bool b).oneCell'=true:=rfl
@[go_sem] theorem ofV_bool (b:Bool):ofV (.bool b)=.u (.bool b):=rfl
def jf8(H:PHeap)(o:Option (List PV×List (Nat×Nat)))(parts:List (Nat×PV)):Option PV:=
 match o with
 |none=>none
 |some (zs,places)=>if zs.all (qh H)then(Yy H places zs parts).map .agg else none
@[go_sem] theorem buildP_t {P:Program}(t:TypeId) (parts:List (Nat×PV)):zm2 P H t parts=jf8 H (z0e P t) parts:=rfl
@[go_sem] theorem fillB_some (zs:List PV) (places:List (Nat×Nat)) (parts:List (Nat×PV)):jf8 H (some (zs,places)) parts=if zs.all (qh H)then(Yy H places zs parts).map .agg else none:=rfl
@[go_sem] theorem fillP_nil (places:List (Nat×Nat)) (cs:List PV):Yy H places cs []=some cs:=by unfold Yy;rfl
@[go_sem] theorem fillP_cons (places:List (Nat×Nat)) (cs:List PV) (i:Nat) (p:PV) (rest:List (Nat×PV)):Yy H places cs ((i,p)::rest)=(places[i]?).elim none λq=>if p.cells.length=q.2/\q.1+q.2<=cs.length/\okC H p=true then Yy H places (cs.take q.1++p.cells++cs.drop (q.1+p.cells.length)) rest else none:=by
 rw[Yy];cases places[i]?<;>rfl
end
theorem wca{P:Program}{W:Env}{n:Nat}{F:PFrame}{H:PHeap}{Q:Exit->PFrame->PHeap->Prop}{x y:Code}(M:PFrame->PHeap->Prop)(h1:PC P W n x F H (z5m M Q))(h2:∀F H,M F H->PC P W n y F H Q):PC P W n (.seq x y) F H Q:=
 PC.seq λK hK=>h1.mono λe F H h=>by
  cases e<;>first|exact hK _ _ (h2 _ _ h)|exact h
def rowV(m id ver:Nat):PV:=if m=0 then .u (.slice none 0 0)else .ps id ver
def jfy(H:PHeap)(e:TypeId)(k m id ver:Nat)(cs:List PV):Prop:=cs.length=m*k/\(m≠0->H id=⟨ver,some (.row e k m cs)⟩)
theorem z9x{m:Nat}(h:m≠0)(id ver:Nat):rowV m id ver=.ps id ver:=if_neg h
theorem wcn{P:Program}{W:Env}{n:Nat}{F:PFrame}{H:PHeap}{o:Oper}{s x:Operand}{t e:TypeId}{k b d id ver m m2:Nat}{z:Value}{cs cs2:List PV}{K:PV->PHeap->Prop}(ho:o.op=.call { callee :=.builtin .append,args:=#[s,x],argTypes:=#[t,t] })(hd:o.dst=some d)(hdn:d<n)(ht:yq P t=some (e,k,b,z))
  (hs:evP F s=rowV m id ver) (hr:jfy H e k m id ver cs) (hx:zdj H k (evP F x)=some (m2,cs2)) (hleaf:∀p∈cs2,qh H p=true) (h63:m+m2<=maxLen) (hbytes:(m+m2)*b<=140737488355328)
  (hk:∀ver',K (.ps id ver') (H.set id ⟨ver',some (.row e k (m+m2) (cs++cs2))⟩)):PE P W n o F H K:=by
 by_cases hm:m=0
 ·subst hm;have hc:cs=[]:=wek (by simpa using hr.1);subst hc;refine wbc (id:=id) ho hd hdn ht (by rw[hs];rfl) hx hleaf (by omega) (by simpa using hbytes) ?_;have:=hk ((H id).ver+1);rwa [wfa,wfx]at this
 ·exact PE.append ho hd hdn ht (by rw[hs,z9x hm]) (by simp[qm,hr.2 hm]) hx hleaf h63 hbytes (hk _)
section
variable{P:Program}{W:Env}{n:Nat}{F:PFrame}{H:PHeap}{o:Oper}{l:List Oper}{ops:Array Oper}{K:PFrame → PHeap → Prop}
theorem zw4{K:PHeap->Prop}{id:Nat}{b:zcb}(h:∀H',H' id=b->(∀j,j≠id->H' j=H j)->K H'):K (H.set id b):=h _ (by simp[PHeap.set]) (λj hj=>by simp[PHeap.set,hj])
theorem war{t:TypeId}{d:Nat}{us:List Value}{cs:List PV}(id:Nat)(hg:o.guard=none)(ho:o.op=.alloc t)(hd:o.dst=some d)(hdn:d<n)(hz:zfn P t=some us)(h1:us.all Value.oneCell'=true)(hc:us.map PV.u=cs)
  (h:∀ver H',H' id=⟨ver,some (.box t cs)⟩->(∀j,j≠id->H' j=H j)->PL P W n ops l (F.put (some d) (.pp id 0 ver)) H' K):PL P W n ops (o::l) F H K:=by
 subst hc;refine waz hg (PE.alloc (id:=id) ho hd hdn hz h1 ?_);rw[hd];exact zw4 (h _)
theorem wbg{t:TypeId}{x:Operand}{d:Nat}{v:PV}{cs:List PV}(id:Nat)(hg:o.guard=none)(ho:o.op=.box t x)(hd:o.dst=some d)(hdn:d<n)(hv:evP F x=v)(hok:okC H v=true)(hc:v.cells=cs)
  (h:∀ver H',H' id=⟨ver,some (.box t cs)⟩->(∀j,j≠id->H' j=H j)->PL P W n ops l (F.put (some d) (.pp id 0 ver)) H' K):PL P W n ops (o::l) F H K:=by
 subst hv;subst hc;refine waz hg (PE.box (id:=id) ho hd hdn hok ?_);rw[hd];exact zw4 (h _)
theorem wao{t T:TypeId}{x y:Operand}{id off ver k:Nat}{ag:Bool}{cs cs' ps:List PV}{v:PV}(hg:o.guard=none)(ho:o.op=.store t x y)(hd:jo n o)(hx:evP F x=.pp id off ver)(hH:H id=⟨ver,some (.box T cs)⟩)(ht:asz P t=some (ag,k))(hv:evP F y=v)(hok:okC H v=true)(hvc:v.cells=ps)(hlen:ps.length=k)(hfit:off+k<=cs.length)(hcs:setMany cs off ps=cs')
  (h:∀H',H' id=⟨ver,some (.box T cs')⟩->(∀j,j≠id->H' j=H j)->PL P W n ops l (F.put o.dst (.u undef)) H' K):PL P W n ops (o::l) F H K:=by
 subst hv;subst hvc;subst hcs;exact waz hg (PE.store ho hd hx (cs:=cs) (by simp[jl,hH]) ht hok hlen hfit (bd :=.box T cs) (by rw[hH]) (zw4 h))
theorem wc1{s x:Operand}{t e:TypeId}{k b d id ver m m2:Nat}{z:Value}{cs cs2:List PV}{px:PV}(hg:o.guard=none)(ho:o.op=.call { callee :=.builtin .append,args:=#[s,x],argTypes:=#[t,t] })(hd:o.dst=some d)(hdn:d<n)(ht:yq P t=some (e,k,b,z))
  (hs:evP F s=rowV m id ver) (hr:jfy H e k m id ver cs) (hp:evP F x=px) (hx:zdj H k px=some (m2,cs2)) (hleaf:∀p∈cs2,qh H p=true) (h63:m+m2<=maxLen) (hbytes:(m+m2)*b<=140737488355328)
  (h:∀ver' H',H' id=⟨ver',some (.row e k (m+m2) (cs++cs2))⟩->(∀j,j≠id->H' j=H j)->PL P W n ops l (F.put (some d) (.ps id ver')) H' K):PL P W n ops (o::l) F H K:=by
 subst hp;refine waz hg (wcn ho hd hdn ht hs hr hx hleaf h63 hbytes λver'=>?_);rw[hd];exact zw4 (h _)
theorem wba{t e:TypeId}{k b len d:Nat}{z:Value}{parts:Array (Nat×Operand)}{ips:List (Nat×PV)}{cs:List PV}(id:Nat)(hg:o.guard=none)(ho:o.op=.buildSlice t len parts)(hd:o.dst=some d)(hdn:d<n)(ht:yq P t=some (e,k,b,z))(hz:z.cells.toList.all Value.oneCell'=true)(hbig:len*k<=16777216)(hmax:len<=maxLen)
  (hp:(parts.toList.map λx=>(x.1,evP F x.2))=ips) (hlit:zal H k len ips=true) (hc:(ips.map (·.2)).flatMap PV.cells=cs)
  (h:∀ver H',H' id=⟨ver,some (.row e k len cs)⟩->(∀j,j≠id->H' j=H j)->PL P W n ops l (F.put (some d) (.ps id ver)) H' K):PL P W n ops (o::l) F H K:=by
 subst hp;subst hc;refine waz hg (PE.buildSlice (id:=id) ho hd hdn ht hz hbig hmax hlit ?_);rw[hd];have h':=h;simp only[wff,Function.comp_def]at h';exact zw4 (h' _)
theorem way{t e:TypeId}{k b len d:Nat}{z:Value}{parts:Array (Nat×Operand)}{ips:List (Nat×PV)}{ps:List PV}(hg:o.guard=none)(ho:o.op=.buildSlice t len parts)(hd:o.dst=some d)(hdn:d<n)(ht:yq P t=some (e,k,b,z))(hz:z.cells.toList.all Value.oneCell'=true)(hbig:len*k<=16777216)
  (hp:(parts.toList.map λx=>(x.1,evP F x.2))=ips) (hlit:zal H k len ips=true) (hc:ips.map (·.2)=ps)
  (h:PL P W n ops l (F.put (some d) (.sl k ps)) H K):PL P W n ops (o::l) F H K:=by
 subst hp;subst hc;refine waz hg (wak (by intro d' hd';rw[hd]at hd';cases hd';exact hdn) (PQ.buildSlice ho ht hz hbig hlit) ?_);rw[hd];simpa only [wff,Function.comp_def]using h
end
section
variable{P:Program}{W:Env}{n:Nat}{F:PFrame}{H:PHeap}{V:Nat → Value}{w:World}
theorem jd1{Z:ZM}{id v b:Nat}(h:PZ Z (H.set id ⟨v,none⟩) V b):PZ Z H V b:=by
 rcases h with h|⟨i,h1,h2⟩
 ·exact .inl h
 ·by_cases e:i=id
  ·subst e;simp[PHeap.set]at h1
  ·exact .inr ⟨i,by simpa [PHeap.set,e]using h1,h2⟩
theorem Rp.drop{Z:ZM}{id v:Nat}(hv:(H id).ver<=v){p:PV}{u:Value}(h:Rp Z H V w p u):Rp Z (H.set id ⟨v,none⟩) V w p u:=
 h.mono (λb hb hlt=>⟨λhz=>hb (jd1 hz),hlt,rfl⟩) (weh _) (λi=>by
  by_cases e:i=id
  ·subst e;simpa [PHeap.set]using hv
  ·simp[PHeap.set,e]) (λi ver _ h1 h2=>by
  by_cases e:i=id
  ·subst e;simp[PHeap.set]at h1
  ·simp[PHeap.set,e]at h1 h2;exact⟨h1,h2,rfl⟩)
theorem HRel.drop{id v:Nat}(hv:(H id).ver<=v)(hr:HRel P W H V w):HRel P W (H.set id ⟨v,none⟩) V w:=by
 have ne:∀{i:Nat}{bd:PBody},((H.set id ⟨v,none⟩) i).body=some bd->(H i).body=some bd/\i≠id:=λ{i bd}h=>by
  by_cases e:i=id
  ·subst e;simp[PHeap.set]at h
  ·exact⟨by simpa [PHeap.set,e]using h,e⟩
 refine⟨hr.below,λi t k m cs h=>?_,λi t cs h=>?_,λi p cs φ h=>?_,λi=>(hr.ghost i).drop hv,λi j g h1 h2=>?_,hr.zlt,λi b h1=>?_⟩
 ·obtain⟨vals,ho,hR,h1⟩:=hr.row i t k m cs (ne h).1;exact⟨vals,ho,hR.mono λp u hp=>hp.drop hv,h1⟩
 ·obtain⟨g,arr,e,hg,hh,hR,h1⟩:=hr.box i t cs (ne h).1;exact⟨g,arr,e,hg,hh,hR.mono λp u hp=>hp.drop hv,h1⟩
 ·obtain⟨g,o,vs,e,hg,hh,h1,hR⟩:=hr.map i p cs φ (ne h).1;exact⟨g,o,vs,e,hg,hh,h1,hR.mono λp u hp=>hp.drop hv⟩
 ·have f1:∀{i:Nat},((H.set id ⟨v,none⟩) i).body.isSome=true->(H i).body.isSome=true:=λ{i}h=>by
   cases hb:((H.set id ⟨v,none⟩) i).body with
   |none=>rw[hb]at h;cases h
   |some bd=>rw[(ne hb).1];rfl
  exact hr.apart i j g (f1 h1) (f1 h2)
 ·cases hb:((H.set id ⟨v,none⟩) i).body with
  |none=>rw[hb]at h1;cases h1
  |some bd=>exact hr.nz i b (by rw[(ne hb).1];rfl)
theorem HRel.seen{id ver t k m:Nat}{cs:List PV}(hr:HRel P W H V w)(hH:H id=⟨ver,some (.row t k m cs)⟩)(xs:List PV)(hx:xs.flatMap PV.cells=cs)(hu:∀y∈xs,y.cells.length=k)(hm:xs.length=m):
  Rp W.Z (H.set id ⟨ver+1,none⟩) V w (.sl k xs) (V id):=by
 have hvle:(H id).ver<=ver+1:=by rw[hH];exact Nat.le_succ _
 have hb:(H id).body=some (.row t k m cs):=by rw[hH]
 obtain⟨vals,ho,hR,_⟩:=hr.row id t k m cs hb;have hlen:=ho.1;rcases ho.2 with⟨e,hn0⟩|⟨g,cap,cur,e,hg,hh2,hcap,_,_,htake⟩
 ·have:xs=[]:=wek (by omega);rw[e,this];exact .nil _ _ _
 ·have hblk:qc (V id)=some g:=by rw[e];rfl
  have hz:¬PZ W.Z (H.set id ⟨ver+1,none⟩) V g:=λhz=>by
   rcases hz with hz|⟨i,h1,h2⟩
   ·exact wbh hr (by rw[hb];rfl) hblk hz
   ·by_cases ei:i=id
    ·subst ei;simp[PHeap.set]at h1
    ·exact ei (hr.apart i id g (by simpa [PHeap.set,ei]using h1) (by rw[hb];rfl) h2 hblk)
  have hcell:∀(i:Nat)(q:PV),(xs.flatMap PV.cells)[i]?=some q->∃u,vals[i]?=some u/\w.cell? ⟨g,0+i,none⟩=some u/\Rp W.Z (H.set id ⟨ver+1,none⟩) V w q u:=λi q hq=>by
   rw[hx]at hq;have hlt:=(wd5.1 hq).1;have hi1:i<vals.length:=by rw[<- hR.1];exact hlt
   refine⟨vals[i],wd2 hi1,?_,(hR.2 i _ _ hq (wd2 hi1)).drop hvle⟩;have:=ho.cells (g:=g) (by rw[e];rfl) i _ (wd2 hi1);rwa [zq]at this
  have:=Rp.sl (Z:=W.Z) (H:=H.set id ⟨ver+1,none⟩) (V:=V) (w:=w) k xs g 0 cap (λi=>(vals[i]?).getD undef) hu (by omega) hz (wew.1 hh2).1 (λi q hq=>by
   obtain⟨u,h1,h2,_⟩:=hcell i q hq;rw[h1];exact h2) (λi q hq=>by
   obtain⟨u,h1,_,h3⟩:=hcell i q hq;simp only[h1,wfd];exact h3)
  rw[hm]at this;rw[e];exact this
theorem Rel.freeze{a:Act}{s id ver t k m:Nat}{cs:List PV}(hr:Rel P W n F H V a w)(hs:F s=.ps id ver)(hH:H id=⟨ver,some (.row t k m cs)⟩)(xs:List PV)(hx:xs.flatMap PV.cells=cs)(hu:∀y∈xs,y.cells.length=k)(hm:xs.length=m):
  Rel P W n (F.put (some s) (.sl k xs)) (H.set id ⟨ver+1,none⟩) V a w:=by
 have hvle:(H id).ver<=ver+1:=by rw[hH];exact Nat.le_succ _
 refine⟨hr.heap.drop hvle,hr.size,hr.defers,λt=>?_⟩;by_cases e:s=t
 ·subst e;have hsv:a.tmps.getD s undef=V id:=by
   have:=hr.slot s;rw[hs]at this;generalize a.tmps.getD s undef=q at this;cases this with
   |ps _ _ _ hvv hh=>exact hh (by rw[hH];rfl) (by rw[hH])
  rw[hsv];simp only[PFrame.put,if_true];exact hr.heap.seen hH xs hx hu hm
 ·have e2:¬(some s=some t):=by simpa using e
  simp only[PFrame.put,if_neg e2];exact(hr.slot t).drop hvle
theorem PC.freeze{c:Code}{Q:Exit->PFrame->PHeap->Prop}{id ver t k m:Nat}{cs:List PV}(s:Nat)(xs:List PV)(hs:F s=.ps id ver)(hH:H id=⟨ver,some (.row t k m cs)⟩)(hx:xs.flatMap PV.cells=cs)(hu:∀y∈xs,y.cells.length=k)(hm:xs.length=m)
  (h:∀H',(∀j,j≠id->H' j=H j)->PC P W n c (F.put (some s) (.sl k xs)) H' Q):PC P W n c F H Q:=λV a w Q' hr hQ=>
 h (H.set id ⟨ver+1,none⟩) (λj hj=>by simp[PHeap.set,hj]) V a w Q' (hr.freeze hs hH xs hx hu hm) hQ
variable{o:Oper}{l:List Oper}{ops:Array Oper}{K:PFrame → PHeap → Prop}
theorem wa4{t e:TypeId}{b d m:Nat}{z:Value}{x y:Operand}{kx ky:IntKind}(id:Nat)(hg:o.guard=none)(ho:o.op=.makeSlice t x y)(hd:o.dst=some d)(hdn:d<n)(ht:yq P t=some (e,1,b,z))(h1z:z.oneCell'=true)
  (hx:evP F x=.u (.int kx (m:Int))) (hy:evP F y=.u (.int ky (m:Int))) (hmax:m<=maxLen) (hbytes:b*m<=281474976710656)
  (h:∀ver H',H' id=⟨ver,some (.row e 1 m (List.replicate m (.u z)))⟩->(∀j,j≠id->H' j=H j)->PL P W n ops l (F.put (some d) (.ps id ver)) H' K):PL P W n ops (o::l) F H K:=by
 refine waz hg (PE.makeSlice (id:=id) ho hd hdn ht h1z hx hy hmax hbytes ?_);rw[hd];exact zw4 (h _)
theorem wa5{t e:TypeId}{x y:Operand}{id off ver k m r:Nat}{ag:Bool}{cs cs' ps:List PV}{v:PV}(hg:o.guard=none)(ho:o.op=.store t x y)(hd:jo n o)(hx:evP F x=.pp id off ver)(hH:H id=⟨ver,some (.row e r m cs)⟩)(ht:asz P t=some (ag,k))(hv:evP F y=v)(hok:okC H v=true)(hvc:v.cells=ps)(hlen:ps.length=k)(hfit:off+k<=cs.length)(hcs:setMany cs off ps=cs')
  (h:∀H',H' id=⟨ver,some (.row e r m cs')⟩->(∀j,j≠id->H' j=H j)->PL P W n ops l (F.put o.dst (.u undef)) H' K):PL P W n ops (o::l) F H K:=by
 subst hv;subst hvc;subst hcs;exact waz hg (PE.store ho hd hx (cs:=cs) (by simp[jl,hH]) ht hok hlen hfit (bd :=.row e r m cs) (by rw[hH]) (zw4 h))
def OwnS(H:PHeap)(e k id:Nat)(q:PV)(m:Nat)(cs:List PV):Prop:=cs.length=m*k/\((q=.u (.slice none 0 0)/\m=0)\/∃ver,q=.ps id ver/\H id=⟨ver,some (.row e k m cs)⟩)
theorem OwnS.nil(H:PHeap)(e k id:Nat):OwnS H e k id (.u (.slice none 0 0)) 0 []:=⟨by simp,.inl ⟨rfl,rfl⟩⟩
theorem OwnS.row{e k id ver m:Nat}{cs:List PV}(h:H id=⟨ver,some (.row e k m cs)⟩)(hl:cs.length=m*k):OwnS H e k id (.ps id ver) m cs:=⟨hl,.inr ⟨ver,rfl,h⟩⟩
theorem OwnS.mono{H':PHeap}{e k id m:Nat}{q:PV}{cs:List PV}(h:OwnS H e k id q m cs)(he:H' id=H id):OwnS H' e k id q m cs:=⟨h.1,h.2.imp (λh=>h) λ⟨v,h1,h2⟩=>⟨v,h1,he.trans h2⟩⟩
theorem wbp{e k id m:Nat}{q:PV}{cs:List PV}(h:OwnS H e k id q m cs)(hm:m≠0):∃ver,q=.ps id ver/\H id=⟨ver,some (.row e k m cs)⟩:=by
 rcases h.2 with⟨_,h0⟩|h
 ·exact absurd h0 hm
 ·exact h
theorem OwnS.len{t:TypeId}{e k id m:Nat}{q:PV}{cs:List PV}(ht:y7 P t=true)(h:OwnS H e k id q m cs):lenP P H t q=some (I m):=by
 rcases h.2 with⟨rfl,rfl⟩|⟨v,rfl,h2⟩
 ·simp[lenP,ht,I]
 ·simp[lenP,qm,h2,ht,I]
theorem OwnS.leaf{e k id m:Nat}{q:PV}{cs:List PV}(h:OwnS H e k id q m cs):qh H q=true:=by
 rcases h.2 with⟨rfl,_⟩|⟨v,rfl,h2⟩
 ·rfl
 ·simp[qh,qm,h2]
theorem wc0{s x:Operand}{t e:TypeId}{k b d id m m2:Nat}{z:Value}{cs cs2:List PV}{q px:PV}(hg:o.guard=none)(ho:o.op=.call { callee :=.builtin .append,args:=#[s,x],argTypes:=#[t,t] })(hd:o.dst=some d)(hdn:d<n)(ht:yq P t=some (e,k,b,z))
  (hs:evP F s=q) (hr:OwnS H e k id q m cs) (hp:evP F x=px) (hx:zdj H k px=some (m2,cs2)) (hc2:cs2.length=m2*k) (hleaf:∀p∈cs2,qh H p=true) (h63:m+m2<=maxLen) (hbytes:(m+m2)*b<=140737488355328)
  (h:∀q' H',OwnS H' e k id q' (m+m2) (cs++cs2)->(∀j,j≠id->H' j=H j)->PL P W n ops l (F.put (some d) q') H' K):PL P W n ops (o::l) F H K:=by
 rcases hr.2 with⟨rfl,rfl⟩|⟨ver,rfl,hH⟩
 ·have hc:cs=[]:=wek (by simpa using hr.1);subst hc;exact wc1 (id:=id) (ver:=0) (m:=0) hg ho hd hdn ht hs ⟨by simp,λh=>absurd rfl h⟩ hp hx hleaf h63 hbytes λver' H' b1 o1=>h _ H' (.row b1 (by simp[hc2])) o1
 ·subst hp;refine waz hg (PE.append (cs:=cs) ho hd hdn ht hs (by simp[qm,hH]) hx hleaf h63 hbytes ?_);rw[hd];exact zw4 λH' b1 o1=>h _ H' (.row b1 (by rw[weo,hr.1,hc2,wfr])) o1
end
def zku(P:Program)(t:TypeId):Option IntKind:=match P.underlying t with|some (.int k)=>some k|_=>none
section
variable{P:Program}{t:TypeId}{x y:Operand}{k:IntKind}{a b:Int}
theorem zih{t:TypeId}(h:zku P t=some k):P.underlying t=some (.int k):=by
 unfold zku at h;split at h
 ·cases h;assumption
 ·cases h
@[go_sem] theorem z69 {s d:TypeId}{k k':IntKind}{n:Int}(hs:(zku P s).isSome=true) (hd:zku P d=some k):z5l P s d (.u (.int k' n))=some (.u (.int k (k.wrap n))):=by
 obtain⟨ks,hks⟩:=wfo.1 hs;have:(convert s d (.int k' n)).val P=some (.int k (k.wrap n)):=by
  have e1:(underlying s).val P=some (.int ks):=by simp[underlying,program,qi,Sem.val,zih hks];rfl
  have e2:(underlying d).val P=some (.int k):=by simp[underlying,program,qi,Sem.val,zih hd];rfl
  simp only[convert,qi,e1,e2,wfp,Conv.intToInt,qk]
 simp[z5l,PV.val2,this,ofV]
@[go_sem] theorem zgy {n:Int}(h1 : -9223372036854775808<=n) (h2:n<=9223372036854775807):IntKind.i64.wrap n=n:=zea h1 h2
@[go_sem] theorem z04 {n:Int}(h1:0<=n) (h2:n<18446744073709551616):IntKind.u64.wrap n=n:=by simp[IntKind.wrap,IntKind.bits,IntKind.signed];omega
@[go_sem] theorem zce {n:Int}(h1:0<=n) (h2:n<256):IntKind.u8.wrap n=n:=by simp[IntKind.wrap,IntKind.bits,IntKind.signed];omega
end
section
variable{P:Program}{W:Env}{n:Nat}{H:PHeap}{ops:Array Oper}
def z1a(x t:Nat):Nat:=if t-1=x then t-2 else t-1
def zp6(ops:Array Oper)(m x:Nat):Bool:=(List.range ops.size).all λt=>decide (t<=m) ||decide (t=x) ||Region.waitsFor .any ops t (z1a x t)
def ztt(ops:Array Oper):List Nat->Array Bool->Bool
 |[],listed=>(Region.ready .any ops listed).isEmpty
 |t::ts,listed=>decide (Region.ready .any ops listed=[t]) && ztt ops ts (listed.setIfInBounds t true)
theorem z3p{m:Nat}{ts:List Nat}{listed:Array Bool}(hts:∀t∈ts,m<=t)(h:ztt ops ts listed=true):∀j∈Region.ready .any ops listed,m<=j:=by
 cases ts with
 |nil=>intro j hj;simp only[ztt,List.isEmpty_iff]at h;rw[h]at hj;cases hj
 |cons t ts=>
  intro j hj;simp only[ztt,wd8,wed]at h;rw[h.1]at hj;have:j=t:=by simpa using hj
  rw[this];exact hts t (by simp)
theorem zh6{Q':Exit->Act->World->Prop}:∀(ts:List Nat)(listed:Array Bool)(a:Act)(w:World),(∀t∈ts,t<ops.size) ->
  ztt ops ts listed=true->wpList P ops Q' (ts.filterMap λt=>ops[t]?) a w->wpAny P .any ops Q' ts.length listed a w
 |[],_,_,_,_,hB,h=>⟨by simpa [ztt]using hB,h⟩
 |t::ts,listed,a,w,hl,hB,h=>by
  have htl:t<ops.size:=hl t (by simp);have h0:ops[t]?=some ops[t]:=wet htl;simp only[ztt,wd8,wed]at hB;refine⟨λh1=>(by rw[hB.1]at h1;cases h1),λi hi=>?_⟩;rw[hB.1]at hi;have hik:i=t:=by simpa using hi
  subst hik;rw[List.filterMap_cons,h0]at h;have hw:wpOp P ops Q' i (wpList P ops Q' (ts.filterMap λt=>ops[t]?)) a w:=by unfold wpOp;simp only[h0];exact h
  exact wpOp_mono (λa' w' h'=>zh6 ts _ a' w' (λt ht=>hl t (by simp[ht])) hB.2 h') hw
end
section
variable{P:Program}{n:Nat}{H:PHeap}{ops:Array Oper}
def z9n(ops:Array Oper)(ts:List Nat):List Nat->Array Bool->Bool
 |[],listed=>ztt ops ts listed
 |k::hs,listed=>(Region.ready .any ops listed).contains k && Region.free .any ops listed k && z9n ops ts hs (listed.setIfInBounds k true)
section
variable{W:Env}{m x d g gg:Nat}{ptr zo:Value}{T:TypeId}{zs:Array Value}{L:Array Bool → PFrame → Prop}{Q' : Exit → Act → World → Prop}
theorem zys{listed:Array Bool}{x i:Nat}(hx:listed.getD x true=true)(hi:i∈Region.ready .any ops listed):i≠x:=λe=>by
 subst e;rw[(mem_ready.1 hi).1]at hx;cases hx
theorem zdc{listed:Array Bool}{x:Nat}(h:listed.getD x true=false):(listed.setIfInBounds x true).getD x true=true:=by
 rw[we3,Array.getElem?_setIfInBounds_self];split<;>rfl
end
end
section
variable{P:Program}{W:Env}{n:Nat}{H:PHeap}{F:PFrame}{ops:Array Oper}{o:Oper}{l:List Oper}{K:PFrame → PHeap → Prop}
theorem Rp.forget{Z:ZM}{V:Nat->Value}{w:World}{t:TypeId}{k:Nat}{xs:List PV}{v:Value}(h:Rp Z H V w (.fr t k xs) v):Rp Z H V w (.sl k xs) v:=by
 cases h with
 |fr t k xs v vals hu ho hz h1 h2=>
  have hlen:=ho.1;rcases ho.2 with⟨e,hn0⟩|⟨g,cap,cur,e,hg,hh2,hcap,_,_,htake⟩
  ·have:xs=[]:=wek hn0;rw[e,this];exact .nil _ _ _
  ·have hfl:(xs.flatMap PV.cells).length=vals.length:=by rw[flat_length xs hu,hlen]
   have hcell:∀(i:Nat)(q:PV),(xs.flatMap PV.cells)[i]?=some q->∃u,vals[i]?=some u/\w.cell? ⟨g,0+i,none⟩=some u/\Rp Z H V w q u:=λi q hq=>by
    have hlt:=(wd5.1 hq).1;have hi1:i<vals.length:=by omega
    refine⟨vals[i],wd2 hi1,?_,h2 i _ _ hq (wd2 hi1)⟩;have:=ho.cells (g:=g) (by rw[e];rfl) i _ (wd2 hi1);rwa [zq]at this
   have:=Rp.sl (Z:=Z) (H:=H) (V:=V) (w:=w) k xs g 0 cap (λi=>(vals[i]?).getD undef) hu hcap (hz g (by rw[e];rfl)) (wew.1 hh2).1 (λi q hq=>by
    obtain⟨u,h1,h2,_⟩:=hcell i q hq;rw[h1];exact h2) (λi q hq=>by
    obtain⟨u,h1,_,h3⟩:=hcell i q hq;simp only[h1,wfd];exact h3)
   rw[e];exact this
theorem wds{Z:ZM}{V:Nat->Value}{w:World}{t:TypeId}{k:Nat}:Rp Z H V w (.fr t k []) (.slice none 0 0):=
 .fr t k [] _ [] (λy hy=>by cases hy) (World.ownsRow_nil _ _ _ _) (λb hb=>by cases hb) (λu hu=>by cases hu) (λi p u h=>by simp at h)
theorem wb0{t:TypeId}{k:Nat}:View H (.u (.slice none 0 0)) (.fr t k []):=λP W V w hr v hv=>by cases hv;exact wds
theorem PCall.forget{f:FuncId}{as:List PV}{t:TypeId}{k:Nat}{xs:List PV}(h:PCall P f as (· =.fr t k xs)):PCall P f as (· =.sl k xs):=λZ w vs hz hm hR=>
 (h Z w vs hz hm hR).mono λe w'⟨v,p,h1,h2,h3,h4,h5⟩=>by
  subst h2;refine⟨v,_,h1,rfl,?_,h4.forget,h5⟩;cases h3 with
  |fr _ _ _ h=>exact .sl _ _ h
inductive NoF:PV->Prop
 |u (v:Value):NoF (.u v)
 |agg (cs:List PV) (h:∀c∈cs,NoF c):NoF (.agg cs)
 |tup (cs:List PV) (h:∀c∈cs,NoF c):NoF (.tup cs)
 |sl (k:Nat) (xs:List PV) (h:∀c∈xs,NoF c):NoF (.sl k xs)
 |rp (cs:List PV) (h:∀c∈cs,NoF c):NoF (.rp cs)
theorem NoF.cell{p c:PV}(h:NoF p)(hc:c∈p.cells):NoF c:=by
 cases h with
 |agg cs h=>exact h c hc
 |u v=>simp[PV.cells]at hc;subst hc;exact .u v
 |tup cs h=>simp[PV.cells]at hc;subst hc;exact .tup cs h
 |sl k xs h=>simp[PV.cells]at hc;subst hc;exact .sl k xs h
 |rp cs h=>simp[PV.cells]at hc;subst hc;exact .rp cs h
theorem Rp.noF{Z Z':ZM}{H H':PHeap}{V V':Nat->Value}{w:World}{p:PV}{v:Value}(h:Rp Z H V w p v)(hp:NoF p)(hz:∀b,b<w.heap.size->¬PZ Z H V b->¬PZ Z' H' V' b):Rp Z' H' V' w p v:=by
 induction h with
 |u v=>exact .u v
 |unk v=>cases hp
 |agg cs vs hl h ih=>
  cases hp with
  |agg _ hc=>exact .agg cs vs hl λi p v h1 h2=>ih i p v h1 h2 (hc p (wd7 h1))
 |tup cs vs hl h ih=>
  cases hp with
  |tup _ hc=>exact .tup cs vs hl λi p v h1 h2=>ih i p v h1 h2 (hc p (wd7 h1))
 |nil k a c=>exact .nil k a c
 |sl k xs b o c g hu hlen hzz hb h1 h2 ih=>
  cases hp with
  |sl _ _ hc=>exact .sl k xs b o c g hu hlen (hz b hb hzz) hb h1 λi p hi=>ih i p hi (by
    obtain⟨y,hy,hpy⟩:=wfe.1 (wd7 hi);exact(hc y hy).cell hpy)
 |fr t k xs v vals hu ho hzz h1 h2 ih=>cases hp
 |rp cs b o g hzz hb h1 h2 ih=>
  cases hp with
  |rp _ hc=>exact .rp cs b o g (hz b hb hzz) hb h1 λi p hi=>ih i p hi (hc p (wd7 hi))
 |ps id ver v hv h=>cases hp
 |qs id off k ver v hv h=>cases hp
 |pp id off ver v hv h=>cases hp
 |fn f a b va vb hla hlb ha hb iha ihb=>cases hp
end
section
variable{P:Program}{W:Env}{n:Nat}{J:PHeap → Prop}{ops:Array Oper}
def UQJ(P:Program)(W:Env)(o:Oper)(F:PFrame)(J:PHeap->Prop)(p:PV):Prop:=∀H,J H->PQ P W o F H p
def zza(ops:Array Oper)(m x:Nat):Bool:=(List.range m).all λi=>decide (i=x) ||(List.range (m+1)).any λj=>decide (i<j) && decide (j≠x) && Region.waitsFor .any ops j i
structure HeadY(ops:Array Oper)(m x:Nat)(listed:Array Bool):Prop where
 size:listed.size=ops.size
 closed:∀j oj,j≠x->ops[j]?=some oj->listed.getD j false=true->∀e∈oj.after,Region.binds .any e=true->listed.getD e.on false=true
 tail:∀t,m<=t->t≠x->t<ops.size->listed.getD t true=false
 early:listed.getD x true=true
theorem HeadY.set{m x i:Nat}{listed:Array Bool}(inv:HeadY ops m x listed)(hi:i∈Region.ready .any ops listed)(hin:i<m):HeadY ops m x (listed.setIfInBounds i true):=by
 obtain⟨hun,oi,hoi,hall⟩:=mem_ready.1 hi;have hix:i≠x:=λe=>by subst e;rw[inv.early]at hun;cases hun
 refine⟨by simp[inv.size],λj oj hjx hj hl e he hb=>?_,λt ht htx ht'=>by rw[getD_set_ne true (by omega)];exact inv.tail t ht htx ht',by rw[getD_set_ne true hix];exact inv.early⟩;have hmono:∀k,listed.getD k false=true->(listed.setIfInBounds i true).getD k false=true:=λk hk=>by
  by_cases hik:i=k
  ·subst hik;have:i<listed.size:=by
    rcases wg9 i listed.size with h|h
    ·exact h
    ·rw[we3,Array.getElem?_eq_none h]at hk;cases hk
   simp[this]
  ·rw[getD_set_ne false hik];exact hk
 by_cases hij:i=j
 ·subst hij;have:oj=oi:=wfy (hj.symm.trans hoi);subst this;exact hmono _ (hall e he hb)
 ·rw[getD_set_ne false hij]at hl;exact hmono _ (inv.closed j oj hjx hj hl e he hb)
theorem zgi{m x:Nat}{listed:Array Bool}(hs:zza ops m x=true)(hc:zp6 ops m x=true)(hmx:m≠x)(inv:HeadY ops m x listed):
  ∀(d i:Nat),m-i=d->i<m->listed.getD i true=false->∀t,m<=t->t∉Region.ready .any ops listed:=by
 intro d;induction d using Nat.strongRecOn with
 |_ d ih=>
  intro i hd hi hun t ht hr;obtain⟨htun,ot,hot,hall⟩:=mem_ready.1 hr;have htlt:t<ops.size:=(wew.1 hot).1;have htx:t≠x:=λe=>by subst e;rw[inv.early]at htun;cases htun
  by_cases htn:t=m
  ·subst htn;have h1:=we0.1 hs i (wf7.2 hi);have hix:i≠x:=λe=>by subst e;rw[inv.early]at hun;cases hun
   rw[wft,wed]at h1;have h1:=h1.resolve_left hix;obtain⟨j,hj,hj2⟩:=wgq.1 h1;simp only[wd8,wed]at hj2;have hjx:=hj2.1.2
   replace hj2:=And.intro hj2.1.1 hj2.2
   obtain⟨oj,hoj,e,he,hb,hon⟩:=Region.waitsFor_spec hj2.2;have hjle:j<=t:=by have:=wf7.1 hj;omega
   by_cases hjt:j=t
   ·subst hjt;have:oj=ot:=wfy (hoj.symm.trans hot);subst this;have h2:=hall e he hb;rw[hon,getD_both hun]at h2;cases h2
   ·cases hl:listed.getD j false with
    |true=>
     have h2:=inv.closed j oj hjx hoj hl e he hb;rw[hon,getD_both hun]at h2;cases h2
    |false=>
     have hjs:j<listed.size:=by rw[inv.size];omega
     exact ih (t-j) (by omega) j rfl (by omega) (getD_in hjs hl) t (weh _) hr
  ·have h1:=we0.1 hc t (wf7.2 htlt);simp only[wft,wed]at h1;rcases h1 with(h1|h1)|h1
   ·omega
   ·exact htx h1
   ·obtain⟨o',ho',e,he,hb,hon⟩:=Region.waitsFor_spec h1;have:o'=ot:=wfy (ho'.symm.trans hot);subst this;have h2:=hall e he hb;have hp:m<=z1a x t/\z1a x t≠x/\z1a x t<ops.size:=by unfold z1a;split<;>omega
    rw[hon,getD_both (inv.tail _ hp.1 hp.2.1 hp.2.2)]at h2;cases h2
def zo1(P:Program)(W:Env)(n:Nat)(ops:Array Oper)(J:PHeap->Prop)(Q:PFrame->Prop):List Oper->PFrame->Prop
 |[],F=>Q F
 |o::rest,F=>jo n o/\((qb ops o F=some true/\∃p,UQJ P W o F J p/\zo1 P W n ops J Q rest (F.put o.dst p))\/(qb ops o F=some false/\zo1 P W n ops J Q rest (F.put o.dst (.u undef))))
def zei(P:Program)(W:Env)(n:Nat)(ops:Array Oper)(J:PHeap->Prop)(i:Nat)(K:PFrame->Prop)(F:PFrame):Prop:=
 match ops[i]? with
 |none=>K F
 |some o=>jo n o/\((qb ops o F=some true/\∃p,UQJ P W o F J p/\K (F.put o.dst p))\/(qb ops o F=some false/\K (F.put o.dst (.u undef))))
theorem z7p{i:Nat}{F:PFrame}{K K':PFrame->Prop}(h:∀F,K F->K' F)(hh:zei P W n ops J i K F):zei P W n ops J i K' F:=by
 unfold zei at *;split
 ·rename_i ho;simp only[ho]at hh;exact h _ hh
 ·rename_i o ho;simp only[ho]at hh;obtain⟨hd,⟨hw,p,hp,hk⟩|⟨hw,hk⟩⟩:=hh
  ·exact⟨hd,.inl ⟨hw,p,hp,h _ hk⟩⟩
  ·exact⟨hd,.inr ⟨hw,h _ hk⟩⟩
def YieldsJ(P:Program)(W:Env)(n:Nat)(ops:Array Oper)(J:PHeap->Prop)(o:Oper)(p:PV)(F:PFrame):Prop:=
 jo n o/\((qb ops o F=some true/\UQJ P W o F J p)\/(qb ops o F=some false/\p=.u undef))
theorem YieldsJ.qOp{i:Nat}{o:Oper}{p:PV}{F:PFrame}(hi:ops[i]?=some o)(hy:YieldsJ P W n ops J o p F){K:PFrame->Prop}(h:K (F.put o.dst p)):zei P W n ops J i K F:=by
 unfold zei;simp only[hi];obtain⟨hd,⟨hw,hp⟩|⟨hw,rfl⟩⟩:=hy
 ·exact⟨hd,.inl ⟨hw,p,hp,h⟩⟩
 ·exact⟨hd,.inr ⟨hw,h⟩⟩
theorem zpn{i:Nat}{o:Oper}{F:PFrame}{K:PFrame->Prop}(hi:ops[i]?=some o)(h:zei P W n ops J i K F):∃p,YieldsJ P W n ops J o p F/\K (F.put o.dst p):=by
 unfold zei at h;simp only[hi]at h;obtain⟨hd,⟨hw,p,hp,hk⟩|⟨hw,hk⟩⟩:=h
 ·exact⟨p,⟨hd,.inl ⟨hw,hp⟩⟩,hk⟩
 ·exact⟨_,⟨hd,.inr ⟨hw,rfl⟩⟩,hk⟩
theorem z4d{o:Oper}{F:PFrame}{d:Option Nat}{q p:PV}(h:∀t,d=some t->t∉o.looksAt ops):UQJ P W o (F.put d q) J p↔UQJ P W o F J p:=
 ⟨λhp H hH=>(zwu h).1 (hp H hH),λhp H hH=>(zwu h).2 (hp H hH)⟩
theorem YieldsJ.put{o:Oper}{p:PV}{F:PFrame}{d:Option Nat}{q:PV}(hy:YieldsJ P W n ops J o p F)(h:∀t,d=some t->t∉o.looksAt ops):YieldsJ P W n ops J o p (F.put d q):=by
 obtain⟨hd,hh⟩:=hy;refine⟨hd,?_⟩;rw[zc8 h,z4d h];exact hh
theorem jbj{j:Nat}{oi oj:Oper}{p:PV}(hj:ops[j]?=some oj)(hap:oi.apart ops oj=true){K:PFrame->Prop}{F:PFrame}
  (hy:YieldsJ P W n ops J oi p F) (h:zei P W n ops J j K (F.put oi.dst p)) :
  zei P W n ops J j (λF'=>YieldsJ P W n ops J oi p F'/\K (F'.put oi.dst p)) F:=by
 obtain⟨h1,h2,h3⟩:=Oper.apart_spec hap;unfold zei at *;simp only[hj]at *;rw[zc8 h1]at h;obtain⟨hd,⟨hw,q,hq,hk⟩|⟨hw,hk⟩⟩:=h
 ·exact⟨hd,.inl ⟨hw,q,(z4d h1).1 hq,hy.put h3,by rw[<- wa0 F p q h2];exact hk⟩⟩
 ·exact⟨hd,.inr ⟨hw,hy.put h3,by rw[<- wa0 F p _ h2];exact hk⟩⟩
def zbj(P:Program)(W:Env)(n:Nat)(md:Region.Mode)(ops:Array Oper)(J:PHeap->Prop)(m:Nat)(L:Array Bool->PFrame->Prop):Nat->Array Bool->PFrame->Prop
 |0,listed,F=>L listed F
 |f+1,listed,F=>
  Region.ready md ops listed≠[]/\∀i∈Region.ready md ops listed,i<m/\zei P W n ops J i (zbj P W n md ops J m L f (listed.setIfInBounds i true)) F
theorem zs5{m x i:Nat}{oi:Oper}{q:PV}{L:Array Bool->PFrame->Prop}(hi:ops[i]?=some oi)
  (hs:zza ops m x=true) (hc:zp6 ops m x=true) (hmx:m≠x) (hin:i<m)
  (hdone:∀listed F,L listed F->∀j∈Region.ready .any ops listed,m<=j) :
  ∀(f:Nat)(listed:Array Bool)(F:PFrame),HeadY ops m x listed ->
   (∀j oj,ops[j]?=some oj->j≠i->listed.getD j true=false->(∀e∈oj.after,Region.binds .any e=true->e.on≠i)->oi.apart ops oj=true) ->
   i∈Region.ready .any ops listed->YieldsJ P W n ops J oi q F ->
   zbj P W n .any ops J m L f (listed.setIfInBounds i true) (F.put oi.dst q)->zbj P W n .any ops J m L (f+1) listed F:=by
 intro f;induction f with
 |zero=>
  intro listed F inv _ hr hy Hh;have hun:=(mem_ready.1 hr).1;refine⟨λh=>(by rw[h]at hr;cases hr),λj hj=>?_⟩;have hjn:j<m:=by
   rcases wg9 j m with h|h
   ·exact h
   ·exact absurd hj (zgi hs hc hmx inv _ i rfl hin hun j h)
  refine⟨hjn,?_⟩;by_cases hji:j=i
  ·subst hji;exact hy.qOp hi Hh
  ·have:=hdone _ _ Hh j (ready_mono hj hji);omega
 |succ f ih=>
  intro listed F inv hfree hr hy Hh;have hun:=(mem_ready.1 hr).1;refine⟨λh=>(by rw[h]at hr;cases hr),λj hj=>?_⟩;have hjn:j<m:=by
   rcases wg9 j m with h|h
   ·exact h
   ·exact absurd hj (zgi hs hc hmx inv _ i rfl hin hun j h)
  refine⟨hjn,?_⟩;by_cases hji:j=i
  ·subst hji;exact hy.qOp hi Hh
  ·have h1:=(Hh.2 j (ready_mono hj hji)).2;obtain⟨hjun,oj,hoj,hall⟩:=mem_ready.1 hj;have hnot:∀e∈oj.after,Region.binds .any e=true->e.on≠i:=λe he hb heq=>by
    have h1:=hall e he hb;rw[heq,getD_both hun]at h1;cases h1
   have h2:=jbj hoj (hfree j oj hoj hji hjun hnot) hy h1;have hfree':∀k ok,ops[k]?=some ok->k≠i->(listed.setIfInBounds j true).getD k true=false ->
     (∀e∈ok.after,Region.binds .any e=true->e.on≠i)->oi.apart ops ok=true:=λk ok hk hki hun hno=>by
    refine hfree k ok hk hki ?_ hno;by_cases hjk:j=k
    ·subst hjk;exact hjun
    ·rw[getD_set_ne true hjk]at hun;exact hun
   refine z7p (λF' h3=>ih (listed.setIfInBounds j true) F' (inv.set hj hjn) hfree' (ready_mono hr (Ne.symm hji)) h3.1 ?_) h2;rw[wgv _ _ hji];exact h3.2
theorem zne{m x:Nat}{ts:List Nat}{Lq:PFrame->Prop}(hs:zza ops m x=true)(hc:zp6 ops m x=true)(hmx:m≠x)(hts:∀t∈ts,m<=t):
  ∀(hl:List Nat)(listed:Array Bool)(F:PFrame),(∀k∈hl,k<m/\k<ops.size)->HeadY ops m x listed ->
   z9n ops ts hl listed=true->zo1 P W n ops J Lq (hl.filterMap λt=>ops[t]?) F ->
   zbj P W n .any ops J m (λlisted F=>ztt ops ts listed=true/\Lq F) hl.length listed F
 |[],listed,F,hk,inv,hB,h=>⟨by simpa [z9n]using hB,h⟩
 |k::hl,listed,F,hk,inv,hB,h=>by
  obtain⟨hkm,hks⟩:=hk k (by simp);have h0:ops[k]?=some ops[k]:=wet hks;simp only[z9n,wd8]at hB;obtain⟨⟨hr,hf⟩,hB'⟩:=hB;have hr':k∈Region.ready .any ops listed:=by simpa using hr
  rw[List.filterMap_cons,h0]at h;have hst:zei P W n ops J k (zo1 P W n ops J Lq (hl.filterMap λt=>ops[t]?)) F:=by unfold zei;simp only[h0];exact h
  obtain⟨v,hy,hK⟩:=zpn h0 hst;exact zs5 h0 hs hc hmx hkm (λlisted F hL=>z3p hts hL.1) hl.length listed F inv (Region.free_spec h0 hf) hr' hy
   (zne hs hc hmx hts hl _ _ (λj hj=>hk j (by simp[hj])) (inv.set hr' hkm) hB' hK)
theorem z05{i:Nat}{F:PFrame}{K:PFrame->Prop}(h:zei P W n ops J i K F):zei P W n ops J i (λF'=>K F'/\∀t,(ops[i]?).bind (·.dst)≠some t->F' t=F t) F:=by
 unfold zei at *;split
 ·rename_i ho;simp only[ho]at h;exact⟨h,λ_ _=>rfl⟩
 ·rename_i o ho;simp only[ho]at h;have hput:∀(v:PV)(t:Nat),(ops[i]?).bind (·.dst)≠some t->(F.put o.dst v) t=F t:=λv t ht=>by
   rw[ho]at ht;exact wax ht
  obtain⟨hd,⟨hw,p,hp,hk⟩|⟨hw,hk⟩⟩:=h
  ·exact⟨hd,.inl ⟨hw,p,hp,hk,hput p⟩⟩
  ·exact⟨hd,.inr ⟨hw,hk,hput _⟩⟩
theorem zkj{H:PHeap}{i:Nat}{F:PFrame}{V:Nat->Value}{a:Act}{w:World}{K:PFrame->Prop}{K':Act->World->Prop}{Q':Exit->Act->World->Prop}(hJ:J H)(hr:Rel P W n F H V a w)
  (h:∀F a' w',Rel P W n F H V a' w'->Below w.heap.size w w'->(∀t,(ops[i]?).bind (·.dst)≠some t->a'.tmps.getD t undef=a.tmps.getD t undef)->K F->K' a' w') (hh:zei P W n ops J i K F):wpOp P ops Q' i K' a w:=by
 unfold zei at hh;unfold wpOp;split
 ·rename_i ho;simp only[ho]at hh;exact h _ _ _ hr (Below.refl _ _) (λ_ _=>rfl) hh
 ·rename_i o ho;simp only[ho]at hh;have hput:∀(v:Value)(t:Nat),(ops[i]?).bind (·.dst)≠some t->(a.put o.dst v).tmps.getD t undef=a.tmps.getD t undef:=λv t ht=>by
   rw[ho]at ht;simp only[wfp]at ht;cases hd:o.dst with
   |none=>rfl
   |some d=>
    rw[hd]at ht;have:d≠t:=λe=>ht (by rw[e]);simp[Act.put,wgk this]
  obtain⟨hd,⟨hw,p,hp,hk⟩|⟨hw,hk⟩⟩:=hh
  ·rw[y4 hw hr.slot];simp only[if_true];refine .inl ?_;have h1:=hp H hJ V a w hr.heap (λt _=>hr.slot t);unfold Oper.wp at *;generalize (execOp a.eval o).run P w=r at *;have key:∀a' w',(∃v,a'=a.put o.dst v/\Rp W.Z H V w' p v/\Below w.heap.size w w')->K' a' w':=by
    rintro a' w' ⟨v,rfl,hv,hb⟩;exact h _ _ _ (hr.put hb o.dst hd hv) hb (hput v) hk
   cases r with
   |ok nx w'=>
    cases nx<;>simp only[Oper.upon]at h1⊢
    case value u=>exact key _ _ h1
    case skip=>exact key _ _ h1
    case defer d=>exact key _ _ h1
    case enter f args=>
     refine h1.mono λe w'' he=>?_;cases e with
     |returned v=>exact key _ _ he
     |panicked c=>exact he.elim
     |outgrown=>obtain⟨_,_,hf⟩:=he;exact hf.elim
    case row row args=>
     exact h1.mono λv w'' he=>key _ _ he
   |halt x w'=>
    cases x<;>simp only[Oper.upon]at h1
  ·rw[y4 hw hr.slot];simp only[we4,if_false];exact h _ _ _ (hr.put (Below.refl _ _) o.dst hd (.u _)) (Below.refl _ _) (hput _) hk
theorem zuu{m:Nat}{L:Array Bool->PFrame->Prop}:∀(f:Nat)(listed:Array Bool)(F:PFrame),zbj P W n .any ops J m L f listed F->∃listed' F',L listed' F'/\∀t,(∀i,i<m->listed.getD i true=false->(ops[i]?).bind (·.dst)≠some t)->F' t=F t
 |0,listed,F,h=>⟨listed,F,h,λ_ _=>rfl⟩
 |f+1,listed,F,h=>by
  obtain⟨i,rest,hi⟩:=List.exists_cons_of_ne_nil h.1;have hir:i∈Region.ready .any ops listed:=by rw[hi];simp
  obtain⟨him,hq⟩:=h.2 i hir;have hun:=(mem_ready.1 hir).1;have key:∀F1,zbj P W n .any ops J m L f (listed.setIfInBounds i true) F1->(∀t,(ops[i]?).bind (·.dst)≠some t->F1 t=F t)->∃listed' F',L listed' F'/\∀t,(∀i,i<m->listed.getD i true=false->(ops[i]?).bind (·.dst)≠some t)->F' t=F t:=λF1 h1 h2=>by
   obtain⟨l',F',h3,h4⟩:=zuu f _ F1 h1;refine⟨l',F',h3,λt ht=>?_⟩;rw[h4 t λj hj hl=>ht j hj ?_,h2 t (ht i him hun)];by_cases e:i=j
   ·subst e;exact hun
   ·rw[getD_set_ne true e]at hl;exact hl
  unfold zei at hq;split at hq
  ·rename_i ho;exact key F hq λ_ _=>rfl
  ·rename_i o ho;obtain⟨hd,⟨hw,p,hp,hk⟩|⟨hw,hk⟩⟩:=hq
   ·exact key _ hk λt ht=>wax (by rw[ho]at ht;exact ht)
   ·exact key _ hk λt ht=>wax (by rw[ho]at ht;exact ht)
section
variable{H:PHeap}{m x d gg:Nat}{ox:Oper}{L:Array Bool → PFrame → Prop}{Q' : Exit → Act → World → Prop}{K0:PV → PHeap → Prop}
theorem wp_all{o:Oper}{a:Act}{w:World}{K K':Act->World->Prop}(h:o.wp P a w K (λ_ _ _=>False))(hk:∀a' w',K a' w'->K' a' w'):o.wp P a w K' Q':=by
 unfold Oper.wp at *;generalize (execOp a.eval o).run P w=r at *;cases r with
 |ok nx w'=>
  cases nx<;>simp only[Oper.upon]at h⊢
  case value u=>exact hk _ _ h
  case skip=>exact hk _ _ h
  case defer d=>exact hk _ _ h
  case enter f args=>
   refine h.mono λe w'' he=>?_;cases e with
   |returned v=>exact hk _ _ he
   |panicked c=>exact he.elim
   |outgrown=>obtain⟨_,_,hf⟩:=he;exact hf.elim
  case row row args=>exact h.mono λv w'' he=>hk _ _ he
 |halt x w'=>cases x<;>simp only[Oper.upon]at h
theorem z08(hdst:∀i,i<m->i≠x->(ops[i]?).bind (·.dst)≠some d){pq:PV}{H':PHeap}{V:Nat->Value}(hJ:J H')
  (hE:∀listed F a w,Rel P W n F H' V a w->F d=.unk->Rp W.Z H' V w pq (a.tmps.getD d undef)->L listed F->wpAny P .any ops Q' gg listed a w) :
  ∀(f:Nat)(listed:Array Bool)(F:PFrame)(a:Act)(w:World),Rel P W n F H' V a w->F d=.unk->Rp W.Z H' V w pq (a.tmps.getD d undef)->listed.getD x true=true ->
   zbj P W n .any ops J m L f listed F->wpAny P .any ops Q' (f+gg) listed a w
 |0,listed,F,a,w,hr,hF,hp,_,h=>by rw[wfa];exact hE _ _ _ _ hr hF hp h
 |f+1,listed,F,a,w,hr,hF,hp,hx,h=>by
  rw[show f+1+gg=(f+gg)+1 by omega];refine⟨λh0=>absurd h0 h.1,λi hi=>?_⟩;have hix:=zys hx hi;obtain⟨him,hq⟩:=h.2 i hi;refine zkj hJ hr (λF' a' w' hr' hb ht h'=>?_) (z05 hq);refine z08 hdst hJ hE f _ F' a' w' hr' ?_ ?_ ?_ h'.1
  ·rw[<- hF];exact h'.2 d (hdst i him hix)
  ·rw[ht d (hdst i him hix)];exact hp.grow hb
  ·rw[getD_set_ne true hix];exact hx
theorem z6o{V:Nat->Value}(hxo:ops[x]?=some ox)(hg:ox.guard=none)(hdx:ox.dst=some d)(hdn:d<n)(hJ:J H)(hs:zza ops m x=true)(hc:zp6 ops m x=true)(hmx:m≠x)(hms:x<ops.size)(hml:m<=ops.size)
  (c1:∀e∈ox.after,Region.binds .any e=true->e.on<m/\e.on≠x)
  (c2:∀i,i<m->i≠x->(∃e∈ox.after,Region.binds .any e=true/\e.on=i)\/∀t,(ops[i]?).bind (·.dst)=some t->t∉ox.looksAt ops)
  (hdst:∀i,i<m->i≠x->(ops[i]?).bind (·.dst)≠some d)
  (c3:∀i oi,i<m->ops[i]?=some oi->∀e∈oi.after,Region.binds .any e=true->e.on≠x)
  (hK:∀p H',K0 p H'->J H')
  (hL:∀listed F,L listed F->(∃t0 ot,m<=t0/\Region.ready .any ops listed=[t0]/\ops[t0]?=some ot/\∃e∈ot.after,Region.binds .any e=true/\e.on=x)/\∀F2:PFrame,(∀t,Operand.tmp t∈ox.op.operands->F2 t=F t)->PE P W n ox F2 H K0)
  (hE:∀pq H' V listed F a w,K0 pq H'->Rel P W n F H' V a w->F d=.unk->Rp W.Z H' V w pq (a.tmps.getD d undef)->L listed F->wpAny P .any ops Q' gg listed a w) :
  ∀(f:Nat)(listed:Array Bool)(F:PFrame)(a:Act)(w:World),Rel P W n F H V a w->F d=.unk->listed.getD x true=false->HeadY ops m x (listed.setIfInBounds x true) ->
   zbj P W n .any ops J m L f (listed.setIfInBounds x true) F->wpAny P .any ops Q' (f+gg+1) listed a w:=by
 have step:∀(f:Nat)(listed:Array Bool)(F:PFrame)(a:Act)(w:World),Rel P W n F H V a w->F d=.unk->x∈Region.ready .any ops listed->zbj P W n .any ops J m L f (listed.setIfInBounds x true) F ->
   wpOp P ops Q' x (wpAny P .any ops Q' (f+gg) (listed.setIfInBounds x true)) a w:=λf listed F a w hr hF hx h=>by
  obtain⟨_,ox',hox',hall⟩:=mem_ready.1 hx;have:ox'=ox:=wfy (hox'.symm.trans hxo);subst this;have hnd:∀i,i<m->(listed.setIfInBounds x true).getD i true=false->∀t,(ops[i]?).bind (·.dst)=some t->t∉ox'.looksAt ops:=λi hi hl t ht=>by
   have hix:i≠x:=λe=>by
    subst e;rw[zdc (mem_ready.1 hx).1]at hl;cases hl
   rcases c2 i hi hix with⟨e,he,hb,hon⟩|h2
   ·have h1:=hall e he hb;rw[getD_set_ne true (Ne.symm hix)]at hl;rw[hon,getD_both hl]at h1;cases h1
   ·exact h2 t ht
  obtain⟨l',F',hL',hF'⟩:=zuu f _ F h;have hpe:=(hL _ _ hL').2 F (λt ht=>(hF' t λi hi hl hd=>hnd i hi hl t hd (zz9 ht)).symm) V a w hr;have hw:qb ops ox' F=some true:=by unfold qb;rw[hg]
  unfold wpOp;simp only[hxo];rw[y4 hw hr.slot];simp only[if_true];refine .inl (wp_all hpe λa' w'⟨pq,H',V',hk,hr'⟩=>?_);rw[hdx]at hr';have hpd:Rp W.Z H' V' w' pq (a'.tmps.getD d undef):=by
   have:=hr'.slot d;simpa [PFrame.put]using this
  refine z08 hdst (hK _ _ hk) (λlisted F a w h1 h2 h3 h4=>hE pq H' V' listed F a w hk h1 h2 h3 h4) f _ F _ w' ⟨hr'.heap,hr'.size,hr'.defers,λt=>?_⟩ hF hpd (zdc (mem_ready.1 hx).1) h;by_cases e:d=t
  ·subst e;rw[hF];exact .unk _
  ·have:=hr'.slot t;rwa [wax (by simpa using e)]at this
 intro f;induction f with
 |zero=>
  intro listed F a w hr hF hxu inv h;obtain⟨⟨t0,ot,ht0,htr,hot,e0,he0,hb0,hon0⟩,_⟩:=hL _ _ h;have hall:∀i,i<m->i≠x->listed.getD i true=true:=λi hi hix=>by
   cases hl:listed.getD i true with
   |true=>rfl
   |false=>
    have h1:(listed.setIfInBounds x true).getD i true=false:=by rw[getD_set_ne true (Ne.symm hix)];exact hl
    exact absurd (by rw[htr];simp) (zgi hs hc hmx inv _ i rfl hi h1 t0 ht0)
  have hsz:listed.size=ops.size:=by have:=inv.size;simpa using this
  have hx:x∈Region.ready .any ops listed:=by
   refine mem_ready.2 ⟨hxu,ox,hxo,λe he hb=>?_⟩;obtain⟨h1,h1x⟩:=c1 e he hb;have h2:=hall e.on h1 h1x;have hlt:e.on<ops.size:=Nat.lt_of_lt_of_le h1 hml;cases h3:listed.getD e.on false with
   |true=>rfl
   |false=>
    have:listed.getD e.on true=false:=getD_in (by omega) h3;rw[h2]at this;cases this
  refine⟨λh0=>(by rw[h0]at hx;cases hx),λi hi=>?_⟩;by_cases hix:i=x
  ·subst hix;exact step 0 listed F a w hr hF hx h
  ·have h1:=ready_mono hi hix;rw[htr]at h1;have:i=t0:=by simpa using h1
   subst this;obtain⟨hun,oi',hoi',hall'⟩:=mem_ready.1 hi;have:oi'=ot:=wfy (hoi'.symm.trans hot);subst this;have h2:=hall' e0 he0 hb0;rw[hon0,getD_both hxu]at h2;cases h2
 |succ f ih=>
  intro listed F a w hr hF hxu inv h;have back:∀i,i∈Region.ready .any ops (listed.setIfInBounds x true)->i<m->i≠x->i∈Region.ready .any ops listed:=λi hi him hix=>by
   obtain⟨h1,oi,hoi,hall⟩:=mem_ready.1 hi;refine mem_ready.2 ⟨by rw[getD_set_ne true (Ne.symm hix)]at h1;exact h1,oi,hoi,λe he hb=>?_⟩;have h2:=hall e he hb;rw[getD_set_ne false (Ne.symm (c3 i oi him hoi e he hb))]at h2;exact h2
  have hxl:(listed.setIfInBounds x true).getD x true=true:=zdc hxu;refine⟨λh0=>?_,λi hi=>?_⟩
  ·obtain⟨i,rest,hi⟩:=List.exists_cons_of_ne_nil h.1;have hir:i∈Region.ready .any ops (listed.setIfInBounds x true):=by rw[hi];simp
   have:=back i hir (h.2 i hir).1 (zys hxl hir);rw[h0]at this;cases this
  ·by_cases hix:i=x
   ·subst hix;exact step (f+1) listed F a w hr hF hi h
   ·have hir:=ready_mono hi hix;obtain⟨him,hqq⟩:=h.2 i hir;rw[show f+1+gg=(f+gg)+1 by omega];refine zkj hJ hr (λF' a' w' hr' _ _ h'=>?_) (z05 hqq);refine ih _ F' a' w' hr' (by rw[<- hF];exact h'.2 d (hdst i him hix)) (by rw[getD_set_ne true hix];exact hxu) ?_ ?_
    ·rw[wgv _ _ hix];exact inv.set hir him
    ·rw[wgv _ _ hix];exact h'.1
end
def z9k(ops:Array Oper)(m x:Nat)(hl ts:List Nat):Bool:=
 Region.noSelect ops && decide (m≠x) && decide (x<ops.size) && decide (m<=ops.size) && ((ops[x]?).map (·.guard.isNone)).getD false &&
 zza ops m x && zp6 ops m x && z9n ops ts hl ((Array.replicate ops.size false).setIfInBounds x true) && decide (ts.length+hl.length+1=ops.size) &&
 (hl.all λk=>decide (k<m) && decide (k<ops.size)) && (ts.all λt=>decide (m<=t) && decide (t<ops.size)) &&
 ((ops[x]?).map λox=>ox.after.all λe=>!Region.binds .any e ||(decide (e.on<m) && decide (e.on≠x))).getD false &&
 ((List.range m).all λi=>decide (i=x) ||((ops[x]?).map λox=>(ox.after.any λe=>Region.binds .any e && decide (e.on=i)) ||(match (ops[i]?).bind (·.dst)with|none=>true|some t=>decide (t∉ox.looksAt ops))).getD false) &&
 ((List.range m).all λi=>decide (i=x) ||decide ((ops[i]?).bind (·.dst)≠(ops[x]?).bind (·.dst))) &&
 ((List.range m).all λi=>((ops[i]?).map λoi=>oi.after.all λe=>!Region.binds .any e ||decide (e.on≠x)).getD true) &&
 (match ts with|[]=>false|t::_=>((ops[t]?).map λo=>o.after.any λe=>Region.binds .any e && decide (e.on=x)).getD false)
theorem wc3{H:PHeap}{F:PFrame}{id:Nat}{l tl:List Oper}{Q:Exit->PFrame->PHeap->Prop}{ox:Oper}{d:Nat}(J:PHeap->Prop)(K0:PV->PHeap->Prop)(m x:Nat)(hl ts:List Nat)(hm:P.follows .mixedOrders=true)(hB:z9k l.toArray m x hl ts=true)
  (hx:l[x]?=some ox) (hd:ox.dst=some d) (hdn:d<n) (htl:(ts.filterMap λt=>l[t]?)=tl) (hJ:J H) (hK:∀p H',K0 p H'->J H')
  (h:zo1 P W n l.toArray J (λF'=>(∀F2:PFrame,(∀t,Operand.tmp t∈ox.op.operands->F2 t=F' t)->PE P W n ox F2 H K0)/\∀pq H',K0 pq H'->PL P W n l.toArray tl (F'.put (some d) pq) H' (Q .normal)) (hl.filterMap λt=>l[t]?) (F.put (some d) .unk)):PC P W n (.region id l.toArray true) F H Q:=λV a w Q' hr hQ=>by
 simp only[z9k,wd8,wed]at hB;obtain⟨⟨⟨⟨⟨⟨⟨⟨⟨⟨⟨⟨⟨⟨⟨hsel,hmx⟩,hxl⟩,hml⟩,hgd⟩,hs⟩,hch⟩,hlex⟩,hlen⟩,hhl⟩,hts0⟩,k1⟩,k2⟩,kd⟩,k3⟩,hend0⟩:=hB;have hxo:l.toArray[x]?=some ox:=by simpa using hx
 have hg:ox.guard=none:=by rw[hxo]at hgd;simpa using hgd
 simp only[hxo,wer,wfd]at k1 k2;have c1:∀e∈ox.after,Region.binds .any e=true->e.on<m/\e.on≠x:=λe he hb=>by
  have h1:=Array.all_eq_true_iff_forall_mem.1 k1 e he;rw[hb]at h1;simpa using h1
 have c2:∀i,i<m->i≠x->(∃e∈ox.after,Region.binds .any e=true/\e.on=i)\/∀t,(l.toArray[i]?).bind (·.dst)=some t->t∉ox.looksAt l.toArray:=λi hi hix=>by
  have h1:=we0.1 k2 i (wf7.2 hi);rw[wft,wed]at h1;have h1:=h1.resolve_left hix;rw[wft]at h1;rcases h1 with h1|h1
  ·obtain⟨e,he,hb⟩:=Array.any_eq_true'.1 h1;simp only[wd8,wed]at hb;exact .inl ⟨e,he,hb.1,hb.2⟩
  ·refine .inr λt ht=>?_;rw[ht]at h1;simpa using h1
 have hdst:∀i,i<m->i≠x->(l.toArray[i]?).bind (·.dst)≠some d:=λi hi hix=>by
  have h1:=we0.1 kd i (wf7.2 hi);rw[wft,wed]at h1;have h1:=h1.resolve_left hix;rw[hxo]at h1;simp only[wfp,hd,wed]at h1;exact h1
 have c3:∀i oi,i<m->l.toArray[i]?=some oi->∀e∈oi.after,Region.binds .any e=true->e.on≠x:=λi oi hi hoi e he hb=>by
  have h1:=we0.1 k3 i (wf7.2 hi);rw[hoi]at h1;simp only[wer,wfd]at h1;have h2:=Array.all_eq_true_iff_forall_mem.1 h1 e he;rw[hb]at h2;simpa using h2
 refine wp_region_any hm ?_;refine Q0 (Q:=zpa Q') (λe a w h=>by cases e<;>first|exact h|exact h.elim) _ _ _ _ ?_;have hr1:=hr.drawn;have inv1:HeadY l.toArray m x ((Array.replicate l.toArray.size false).setIfInBounds x true):=by
  refine⟨by simp,λj oj hjx hj hl e hee hb=>?_,λt ht htx ht'=>?_,?_⟩
  ·rw[getD_set_ne false (Ne.symm hjx),getD_replicate_false]at hl;cases hl
  ·rw[getD_set_ne true (Ne.symm htx)];exact getD_in (by simpa using ht') (getD_replicate_false _ _)
  ·have:x<l.length:=by simpa using hxl
   simp[this]
 have hts:∀t∈ts,m<=t:=λt ht=>by have:=we0.1 hts0 t ht;simp only[wd8,wed]at this;exact this.1
 have hts2:∀t∈ts,t<l.toArray.size:=λt ht=>by have:=we0.1 hts0 t ht;simp only[wd8,wed]at this;exact this.2
 have hhl2:∀k∈hl,k<m/\k<l.toArray.size:=λk hk=>by have:=we0.1 hhl k hk;simpa only [wd8,wed]using this
 have Hh:=zne (P:=P) (W:=W) (n:=n) (J:=J) (ops:=l.toArray) (x:=x) hs hch hmx hts hl _ (F.put (some d) .unk) hhl2 inv1 hlex (by simpa using h);have hr2:Rel P W n (F.put (some d) .unk) H V a _:=⟨hr1.heap,hr1.size,hr1.defers,λt=>by
  by_cases e:d=t
  ·subst e;simp only[PFrame.put,if_true];exact .unk _
  ·have:(some d=some t)=False:=by simp[e]
   simp only[PFrame.put,this,if_false];exact hr1.slot t⟩
 have:=z6o (P:=P) (W:=W) (n:=n) (H:=H) (J:=J) (ops:=l.toArray) (m:=m) (gg:=ts.length) (Q':=zpa Q') (V:=V) (K0:=K0) hxo hg hd hdn hJ hs hch hmx hxl hml c1 c2 hdst c3 hK
  (λlisted F' hL=>⟨by
   cases ts with
   |nil=>cases hend0
   |cons t ts=>
    have h3:=hL.1;simp only[ztt,wd8,wed]at h3;have hlt:=hts2 t (by simp);have h4:l.toArray[t]?=some l.toArray[t]:=wet hlt;simp only[h4,wer,wfd]at hend0;obtain⟨e,he,hb⟩:=Array.any_eq_true'.1 hend0;simp only[wd8,wed]at hb;exact⟨t,_,hts t (by simp),h3.1,h4,e,he,hb.1,hb.2⟩,hL.2.1⟩)
  (λpq H' V2 listed F' a2 w2 hk hr3 hF3 hp hL=>by
   refine zh6 (Q':=zpa Q') ts listed a2 w2 hts2 hL.1 ?_;have e:(ts.filterMap λt=>l.toArray[t]?)=tl:=by rw[<- htl];simp
   rw[e];have hr4:Rel P W n (F'.put (some d) pq) H' V2 a2 w2:=⟨hr3.heap,hr3.size,hr3.defers,λt=>by
    by_cases e:d=t
    ·subst e;simp only[PFrame.put,if_true];exact hp
    ·have:(some d=some t)=False:=by simp[e]
     simp only[PFrame.put,this,if_false];exact hr3.slot t⟩
   exact hL.2.2 pq H' hk V2 a2 w2 (zpa Q') hr4 λF'' H'' V'' a'' w'' hk hr''=>hQ _ _ _ _ _ _ hk hr'') hl.length _ (F.put (some d) .unk) a _ hr2 (by simp[PFrame.put]) (getD_in (by simpa using hxl) (getD_replicate_false _ _)) inv1 Hh
 rwa [show hl.length+ts.length+1=l.toArray.size by omega]at this
theorem JF.nil{Q:PFrame->Prop}{F:PFrame}(h:Q F):zo1 P W n ops J Q [] F:=h
end
end Go.Proofs.YtdllbdlnmjngcaaGreat.L
