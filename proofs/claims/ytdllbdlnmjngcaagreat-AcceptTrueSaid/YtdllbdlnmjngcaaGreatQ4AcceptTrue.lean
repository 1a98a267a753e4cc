/-
  Texts of this proof, put together: Gv, Wa, Wb, Wd, Wc, We, Wf, Wg.
-/

import Derived.Test.YtdllbdlnmjngcaaGreatQ3AcceptTrue

namespace Go.Proofs.YtdllbdlnmjngcaaGreat.L
set_option maxRecDepth 100000
set_option maxHeartbeats 8000000
set_option linter.unusedVariables false
set_option linter.unusedSimpArgs false
open Go Go.RowKit
section
variable{α:Type}{kv:α → Value}{eqb:α → α → Bool}
def zqj(eqb:α->α->Bool)(b:Nat)(m:List (α×List Int))(k:α)(v:Int):Option (List (α×List Int)):=match kIx eqb k (m.map (·.1))with
 |some j=>match m[j]? with
  |some e=>(Go.Proofs.YtdllbdlnmjngcaaGreat.app b e.2 [v]).map λzs=>m.set j (e.1,zs)
  |none=>none
 |none=>(Go.Proofs.YtdllbdlnmjngcaaGreat.app b [] [v]).map λzs=>m++[(k,zs)]
def rowsAt(e base:Nat)(H:PHeap)(cs:List PV)(m:List (α×List Int)):Prop:=cs.length=m.length/\∀(j:Nat)(c:PV)(x:α×List Int),cs[j]?=some c->m[j]?=some x->ownL e 1 I H (base+j) c x.2
def ownMR(kv:α->Value)(e base:Nat)(H:PHeap)(id:Nat)(q:PV)(m:List (α×List Int)):Prop:=
 ∃ver bs clock cs,q=.ps id ver/\H id=⟨ver,some (Vw ((m.map (·.1)).map kv) bs clock cs)⟩/\bs.length=m.length/\(bs.Nodup/\∀b∈bs,b<clock)/\rowsAt e base H cs m
theorem ownMR.mono{e base id:Nat}{H H':PHeap}{q:PV}{m:List (α×List Int)}(h:ownMR kv e base H id q m)(h1:H' id=H id)(h2:∀j,base<=j->H' j=H j):ownMR kv e base H' id q m:=by
 obtain⟨ver,bs,clock,cs,e1,e2,e3,e0,e4,e5⟩:=h;exact⟨ver,bs,clock,cs,e1,h1.trans e2,e3,e0,e4,λj c x h3 h4=>(e5 j c x h3 h4).mono (h2 _ (Nat.le_add_right _ _))⟩
variable{P:Program}{W:Env}{n:Nat}{H:PHeap}{F:PFrame}{ops:Array Oper}{l:List Oper}{K:PFrame → PHeap → Prop}
variable{o1 o2 o3 o4 o5:Oper}{d1 d2 d3 d4:Nat}{key elem t ts e base id b:Nat}{x y z:Operand}{q pk:PV}{k:α}{v:Int}{m m' : List (α × List Int)}{zv:Value}
theorem PE.weak{o:Oper}{k k':PV->PHeap->Prop}(h:PE P W n o F H k)(hk:∀p H',k p H'->k' p H'):PE P W n o F H k':=λV a w hr=>
 Oper.wp_mono (λa' w'⟨p,H',V',h1,h2⟩=>⟨p,H',V',hk p H' h1,h2⟩) (h V a w hr)
theorem wd0{F:PFrame}{o:Oper}{d i:Nat}{t:Nat}{xs:List PV}{p:PV}(hg:o.guard=none)(ho:o.op=.extract (.tmp t) i)(hd:o.dst=some d)(hdn:d<n)(hF:F t=.tup xs)(hp:xs[i]?=some p)(h:PL P W n ops l (F.put (some d) p) H K):PL P W n ops (o::l) F H K:=by
 refine waz hg (wak (λt ht=>by rw[hd]at ht;cases ht;exact hdn) (jh ?_) (by rw[hd];exact h));unfold jr;rw[ho];simp only[evP,hF,hp]
theorem wdf(KL:zkd P key kv eqb)(hlt:id<base)(ht:P.underlying t=some (.map key elem))(hts:yq P ts=some (e,1,b,zv))(hzr:∀w,(zeroValue elem).run P w=.ok (.slice none 0 0) w)
  (g1:o1.guard=none) (h1:o1.op=.mapEntry t x y) (hd1:o1.dst=some d1) (g2:o2.guard=none) (h2:o2.op=.extract (.tmp d1) 0) (hd2:o2.dst=some d2)
  (g3:o3.guard=none) (h3:o3.op=.call { callee :=.builtin .append,args:=#[.tmp d2,z],argTypes:=#[ts,ts] }) (hd3:o3.dst=some d3)
  (g4:o4.guard=none) (h4:o4.op=.extract (.tmp d1) 1) (hd4:o4.dst=some d4) (g5:o5.guard=none) (h5:o5.op=.entryStore t x (.tmp d4) (.tmp d3)) (hd5:o5.dst=none)
  (hn:d1<n/\d2<n/\d3<n/\d4<n) (hne:d1≠d2/\d1≠d3/\d1≠d4/\d3≠d4)
  (hx:∀F':PFrame,(∀t,t≠d1->t≠d2->t≠d3->t≠d4->F' t=F t)->evP F' x=q) (hy:evP F y=pk) (hk:pk.val2=some (kv k)) (hz:∀F':PFrame,(∀t,t≠d1->t≠d2->t≠d3->t≠d4->F' t=F t)->evP F' z=.sl 1 [I v])
  (hm:ownMR kv e base H id q m) (ha:zqj eqb b m k v=some m')
  (h:∀F' H',(∀t,t≠d1->t≠d2->t≠d3->t≠d4->F' t=F t)->ownMR kv e base H' id q m'->(∀j,j≠id->j<base->H' j=H j)->PL P W n ops l F' H' K):PL P W n ops (o1::o2::o3::o4::o5::l) F H K:=by
 obtain⟨n1,n2,n3,n4⟩:=hn;obtain⟨e12,e13,e14,e34⟩:=hne;obtain⟨ver,bs,clock,cs,rfl,hH,hbl,hbn,hcl,hrows⟩:=hm;have hx0:=hx F λ_ _ _ _ _=>rfl;have hdo:∀{o:Oper}{d:Nat},o.dst=some d->d<n->jo n o:=λhd hdn t ht=>by rw[hd]at ht;cases ht;exact hdn
 -- behind the Z9: the append, and the store at place j
 have rest:∀{H1:PHeap}{ks1:List Value}{bs1:List Nat}{cs1:List PV}{clock1 j:Nat}{c:PV}{bj:Nat}{xs zs:List Int},H1 id=⟨ver,some (Vw ks1 bs1 clock1 cs1)⟩->cs1[j]?=some c->bs1[j]?=some bj->ownL e 1 I H1 (base+j) c xs->Go.Proofs.YtdllbdlnmjngcaaGreat.app b xs [v]=some zs ->
   (∀F' H' pq,(∀t,t≠d1->t≠d2->t≠d3->t≠d4->F' t=F t)->H' id=⟨ver,some (Vw ks1 bs1 clock1 (cs1.set j pq))⟩->ownL e 1 I H' (base+j) pq zs->(∀i,i≠id->i≠base+j->H' i=H1 i)->PL P W n ops l F' H' K) ->
   PL P W n ops (o2::o3::o4::o5::l) (F.put (some d1) (.tup [c,.u (.int .i64 (bj:Nat))])) H1 K:=by
  intro H1 ks1 bs1 cs1 clock1 j c bj xs zs hH1 hc hbj hown hzs hk2;refine wd0 (xs:=[c,.u (.int .i64 (bj:Nat))]) g2 h2 hd2 n2 (by simp[PFrame.put]) (p:=c) rfl ?_;have hfr:∀t,t≠d1->t≠d2->t≠d3->t≠d4->((F.put (some d1) (.tup [c,.u (.int .i64 (bj:Nat))])).put (some d2) c) t=F t:=λt a1 a2 _ _=>by simp[PFrame.put,Ne.symm a1,Ne.symm a2,a1,a2]
  refine waz g3 ?_;refine PE.weak (wdk (id:=base+j) (q:=c) (xs:=xs) (ys:=[v]) h3 hd3 n3 hts (by simp[evP,PFrame.put]) hown (by rw[hz _ hfr];rfl) (λ_=>rfl) (λ_=>rfl) hzs) λpq H2⟨ho2,hoth⟩=>?_;rw[hd3];refine wd0 (xs:=[c,.u (.int .i64 (bj:Nat))]) g4 h4 hd4 n4 (by simp[PFrame.put,e12,e13,Ne.symm e12,Ne.symm e13]) (p :=.u (.int .i64 (bj:Nat))) rfl ?_;have hfr2:∀t,t≠d1->t≠d2->t≠d3->t≠d4->((((F.put (some d1) (.tup [c,.u (.int .i64 (bj:Nat))])).put (some d2) c).put (some d3) pq).put (some d4) (.u (.int .i64 (bj:Nat)))) t=F t:=λt a1 a2 a3 a4=>by simp[PFrame.put,a1,a2,a3,a4,Ne.symm a1,Ne.symm a2,Ne.symm a3,Ne.symm a4]
  have hne:id≠base+j:=by omega
  refine waz g5 (PE.entryStore (j:=j) (b:=bj) (p:=pq) h5 (λt ht=>by rw[hd5]at ht;cases ht) (by rw[hoth _ hne];exact hH1) (hx _ hfr2) (by simp[evP,PFrame.put]) hbj (by simp[evP,PFrame.put,e34,Ne.symm e34]) ?_);rw[hd5];refine hk2 _ _ pq hfr2 (by simp[PHeap.set]) (ho2.mono (by simp[PHeap.set,Ne.symm hne])) λi i1 i2=>?_;simp only[PHeap.set,if_neg i1];exact hoth i i2
 unfold zqj at ha;cases hj:kIx eqb k (m.map (·.1))with
 |some j=>
  rw[hj]at ha;simp only at ha;split at ha<;>try (cases ha;done)
  rename_i en hen;obtain⟨zs,hzs,rfl⟩:=wee.1 ha;have hjl:=(wd5.1 hen).1;obtain⟨c,hc⟩:∃c,cs[j]?=some c:=⟨_,wd2 (by omega)⟩
  obtain⟨bj,hbj⟩:∃bj,bs[j]?=some bj:=⟨_,wd2 (by omega)⟩
  refine waz g1 (wak (hdo hd1 n1) (wcl KL h1 ht hH hx0 hy hk hj hc hbj) ?_);rw[hd1];refine rest hH hc hbj (hrows j c en hc hen) hzs λF' H' pq f1 f2 f3 f4=>h F' H' f1 ⟨ver,bs,clock,cs.set j pq,rfl,?_,by simpa using hbl,hbn,by simpa using hcl,λi c' x' h6 h7=>?_⟩ λi i1 i2=>f4 i i1 (by omega)
  ·rw[f2];have:(m.set j (en.1,zs)).map (·.1)=m.map (·.1):=by
    rw[List.map_set];refine wfj λi=>?_;rw[wev];split
    ·rename_i e;subst e;simp[hjl,hen];exact((wd5.1 hen).2▸rfl)
    ·rfl
   rw[this]
  ·rw[wev]at h6 h7;by_cases hij:j=i
   ·subst hij;rw[if_pos rfl,if_pos (by omega)]at h6 h7;cases h6;cases h7;exact f3
   ·rw[if_neg hij]at h6 h7;exact(hrows i c' x' h6 h7).mono (f4 _ (by omega) (by omega))
 |none=>
  rw[hj]at ha;simp only at ha;obtain⟨zs,hzs,rfl⟩:=wee.1 ha;refine waz g1 (wci KL h1 (hdo hd1 n1) ht hzr hH hx0 hy hk hj ?_);rw[hd1];have hcm:cs.length=m.length:=hcl;refine rest (j:=m.length) (c :=.u (.slice none 0 0)) (bj:=clock) (xs:=[]) (by simp[PHeap.set];rfl) (by rw[<- hcm];simp) (by rw[<- hbl];simp) ⟨by simp,.inl ⟨rfl,rfl⟩⟩ hzs λF' H' pq f1 f2 f3 f4=>h F' H' f1 ⟨ver,bs++[clock],clock+1,(cs++[PV.u (.slice none 0 0)]).set m.length pq,rfl,?_,by simp[hbl],⟨List.nodup_append.2 ⟨hbn.1,by simp,λa ha c hc e=>by simp at hc;have:=hbn.2 a ha;omega⟩,λb hb=>by rcases wej.1 hb with h|h;have:=hbn.2 b h;omega;simp at h;omega⟩,by simp[hcm],λi c' x' h6 h7=>?_⟩ λi i1 i2=>?_
  ·rw[f2];simp
  ·have hset:(cs++[PV.u (.slice none 0 0)]).set m.length pq=cs++[pq]:=by rw[<- hcm];simp
   rw[hset]at h6;by_cases hi:i<m.length
   ·rw[weg (by omega)]at h6;rw[weg hi]at h7;exact(hrows i c' x' h6 h7).mono (by rw[f4 _ (by omega) (by omega)];simp[PHeap.set,show base+i≠id by omega])
   ·rw[wei (by omega)]at h6;rw[wei (by omega)]at h7
    match hq:i-m.length,h7 with
    |0,h7=>
     rw[show i-cs.length=0 by omega]at h6;cases h6;cases h7;rw[show i=m.length by
      have:=(show i ≥ m.length by omega);omega]
     exact f3
    |s+1,h7=>simp at h7
  ·rw[f4 i i1 (by omega)];simp[PHeap.set,i1]
end
end Go.Proofs.YtdllbdlnmjngcaaGreat.L
namespace Go.Proofs.YtdllbdlnmjngcaaGreat
set_option maxRecDepth 100000
set_option maxHeartbeats 8000000
set_option linter.unusedVariables false
set_option linter.unusedSimpArgs false
open Go Go.RowKit L
def plc(a:Int×Int):Array Value:=#[.int .i64 a.1,.int .i64 a.2]
def ple(a b:Int×Int):List Bool:=[a.1 == b.1,a.2 == b.2]
theorem plEqs(a b:Int×Int):eqS Tryz.prog 113 (plc a) (plc b)=some (ple a b):=by kernel_rfl
theorem jfx(a b:Int×Int)(h:(ple a b).all id=true):a=b:=by
 cases a;cases b;simp only[ple,List.all_cons,List.all_nil,Bool.and_true,wd8,id,beq_iff_eq]at h;obtain⟨rfl,rfl⟩:=h;rfl
abbrev plv(a:Int×Int):Value :=.agg (plc a)
abbrev plq(a b:Int×Int):Bool:=(ple a b).all id
theorem z9b:zkd Tryz.prog 113 plv plq:=jfo ((0,0):Int×Int) plEqs jfx (λa=>by simp[plc,Instr.sameBits])
abbrev PM:=List ((Int×Int)×List Int)
def zij(i left:Int):List Int->PM->Option PM
 |[],m=>some m
 |t::ts,m=>(zqj plq 8 m (left,t) i).bind (zij i left ts)
abbrev PrP:=Int×PV
def prV(p:PrP):PV :=.agg [I p.1,p.2]
def zex(pr:Nat->List Int):Nat->List Int->PM->Option PM
 |_,[],m=>some m
 |i,a::l,m=>(zij i a (pr i) m).bind (zex pr (i+1) l)
theorem PL.mkMR{W:Env}{n:Nat}{H:PHeap}{F:PFrame}{ops:Array Oper}{o:Oper}{l:List Oper}{K:PFrame->PHeap->Prop}{t:TypeId}{d:Nat}{e base:Nat}(id:Nat)(hg:o.guard=none)(ho:o.op=.makeMap t none)(hd:o.dst=some d)(hdn:d<n)
  (h:∀q' H',ownMR plv e base H' id q' []->(∀j,j≠id->H' j=H j)->PL Tryz.prog W n ops l (F.put (some d) q') H' K):PL Tryz.prog W n ops (o::l) F H K:=by
 refine waz hg λV a w hr=>?_;have hex:(execOp a.eval o).run Tryz.prog w=.ok (.value (.map (some w.heap.size))) (w.alloc (.map #[] 0)):=by
  simp only[execOp,ho];rfl
 refine yh hex ⟨.ps id ((H id).ver+1),H.set id ⟨(H id).ver+1,some (Vw [] [] 0 [])⟩,yf V id (.map (some w.heap.size)),?_,?_⟩
 ·rw[hd];exact h _ _ ⟨_,[],0,[],rfl,by simp[PHeap.set],rfl,⟨List.nodup_nil,λb hb=>by cases hb⟩,rfl,λj c x h=>by simp at h⟩ (λj hj=>by simp[PHeap.set,hj])
 ·have hb:Below w.heap.size w (w.alloc (.map #[] 0)):=(Below.refl _ _).alloc (weh _) _;refine hr.turn (wa6 hr.heap hb rfl λg hg=>by cases hg;exact weh _) (λbd hbd=>?_) o.dst (λt ht=>by rw[hd]at ht;cases ht;exact hdn) ?_
  ·cases hbd;exact⟨w.heap.size,_,[],rfl,hr.heap.below.size,heap_alloc_new w _,⟨#[],rfl,rfl,rfl,rfl,List.nodup_nil,λb hb=>by cases hb⟩,rfl,λi p v h=>by simp at h⟩
  ·refine .ps _ _ _ ?_ λ_ _=>?_
   ·simp[PHeap.set]
   ·simp[yf]
theorem wa2{P:Program}{W:Env}{n:Nat}{H:PHeap}{F:PFrame}{ops:Array Oper}{o:Oper}{l:List Oper}{K:PFrame->PHeap->Prop}{t T:TypeId}{x:Operand}{d id ver off k:Nat}{ag:Bool}{cs:List PV}{p:PV}(hg:o.guard=none)(ho:o.op=.load t x)(hd:o.dst=some d)(hdn:d<n)(hx:evP F x=.pp id off ver)(hH:H id=⟨ver,some (.box T cs)⟩)(ht:asz P t=some (ag,k))(hp:qw ag k (cs.drop off)=some p)
  (h:PL P W n ops l (F.put (some d) p) H K):PL P W n ops (o::l) F H K:=by
 refine waz hg (wak (λt ht=>by rw[hd]at ht;cases ht;exact hdn) (jh ?_) (by rw[hd];exact h));unfold jr;rw[ho];simp only[hx];unfold yc;simp[ht,jl,hH,hp]
theorem J8{cs:List PV}{k:Nat}(h:cs.length=k):qw true k cs=some (.agg cs):=by
 subst h;simp[qw]
theorem jfh(H:PHeap)(ts bs rest:List PV)(wa:Nat)(ps:List PrP)(pr:Nat->List Int)(beh gV:PV)(mf:PM)(hgV:gV=.agg (.sl wa ts :: .sl 1 bs :: .sl 2 (ps.map prV)::rest))(hlen:∃k,asz Tryz.prog 26=some (true,k)/\gV.cells.length=k)(hok:∀H,okC H gV=true)(hnp:NoP gV)
  (hall:PCall Tryz.prog 109 [gV] (· = beh)) (hbn:NoP beh) (hlp:∀p∈ps,NoP p.2/\(∀H,qh H p.2=true)/\p.2.cells=[p.2])
  (hpr:∀(i:Nat)(p:PrP),ps[i]?=some p->PCall Tryz.prog 110 [gV,beh,prV p] (· = slI (pr i))/\(pr i).length<=1000000) (hpl:ps.length<=1000000) (hm:zex pr 0 (ps.map (·.1)) []=some mf) :
  PIn Tryz.prog 73 [gV] H (λq H'=>ownMR plv 3 1000 H' 10 q mf/\∀j,j<10->H' j=H j):=by
 refine wbx Tryz.func73 rfl Tryz.ntmps73 (by simp) (by kernel_rfl) λW=>?_;refine PC.seq λK hK=>?_;refine PC.region ?_;refine wbg 13 (d:=1) rfl rfl rfl (by simp) (v:=gV) (by simp[go_sem]) (hok _) rfl λv1 H1 b1 o1=>?_
 repeat (first|(refine PC.seq λK hK=>?_)|(refine PC.region ?_)|(refine PL.k rfl λKK hKK=>?_;simp (disch:=omega) [go_sem,jj,b1];refine hKK _ ?_;clear hKK KK)|(refine PL.done hK ?_;clear hK))
 refine PL.mkMR 10 rfl rfl rfl (by simp) (e:=3) (base:=1000) λq H2 hq o2=>?_;obtain⟨kg,hkg,hlen⟩:=hlen;have hcs:gV.cells=.sl wa ts :: .sl 1 bs :: .sl 2 (ps.map prV)::rest:=by rw[hgV];rfl
 have hgc:PV.agg gV.cells=gV:=by rw[hcs,hgV]
 have b1:H2 13=⟨v1,some (.box 26 gV.cells)⟩:=by rw[o2 13 (by decide)];exact b1
 refine wa2 (p:=gV) rfl rfl rfl (by simp) (by simp[go_sem];rfl) b1 hkg (by rw[wgn,J8 hlen,hgc]) ?_;refine waj rfl rfl (by kernel_rfl) hall (by simp[go_sem]) (by simp[go_sem,hnp]) (by simp[go_sem,View.noP hnp]) ?_;rw[hcs]at b1
 repeat (first|(refine PC.seq λK hK=>?_)|(refine PC.block ?_)|(refine PC.region ?_)|(refine PL.k rfl λKK hKK=>?_;simp (disch:=omega) [go_sem,jj,b1];refine hKK _ ?_;clear hKK KK)|(refine PL.done hK ?_;clear hK))
 refine PC.loop (λf F H'=>∃(k:Nat)(q:PV)(m:PM),k<=ps.length/\f=ps.length-k/\zex pr k ((ps.drop k).map (·.1)) m=some mf/\F 1=.pp 13 0 v1/\H' 13=⟨v1,some (.box 26 (.sl wa ts :: .sl 1 bs :: .sl 2 (ps.map prV)::rest))⟩/\F 3=q/\ownMR plv 3 1000 H' 10 q m/\F 4=beh/\F 14=.sl 2 (ps.map prV)/\F 15=I ps.length/\F 16=I k/\∀j,j<10->H' j=H j) (m:=ps.length) ⟨0,q,[],by omega,by omega,hm,by simp[go_sem],b1,by simp[go_sem],hq,by simp[go_sem],by simp[go_sem],by simp[go_sem],by simp[go_sem],λj hj=>by rw[o2 j (by omega),o1 j (by omega)]⟩ λf F H3 hI=>?_;clear hq b1 hm;obtain⟨k,q,m,hk,rfl,hm,f1,b1,f3,hq,f4,f14,f15,f16,o3⟩:=hI;by_cases hlt:k<ps.length
 ·have hlt':(k:Int)<ps.length:=by omega
  obtain⟨p,ep⟩:∃p,ps[k]=p:=⟨_,rfl⟩
  have hp:p∈ps:=ep▸wec hlt;obtain⟨hp1,hp2,hp3⟩:=hlp p hp;obtain⟨hpc,hpn⟩:=hpr k p (by rw[wd2 hlt,ep]);rw[we7 hlt,ep,wen]at hm;unfold zex at hm;obtain⟨m1,ha,hm⟩:=wgf.1 hm;have eprV:(List.map prV ps)[k]?=some (prV p):=by simp[hlt,ep]
  repeat (first|(refine PC.seq λK hK=>?_)|(refine PC.block ?_)|(refine PC.region ?_)|(refine PL.k rfl λKK hKK=>?_;simp (disch:=omega) [go_sem,jj,f14,f15,f16,hlt',hlt,ep,eprV,prV];refine hKK _ ?_;clear hKK KK)|(refine PL.k rfl λKK hKK=>?_;simp[go_sem,jj,f14,f15,f16,hlt',hlt,ep,eprV,prV];refine hKK _ ?_;clear hKK KK)|(refine PL.done hK ?_;clear hK)|(refine PC.skip (hK _ _ ?_);clear hK)|(refine wah ?_ ?_;focus (simp[go_sem,f14,f15,f16,hlt',hlt,ep,eprV,prV];done)))
  refine war 11 (d:=6) rfl rfl rfl (by simp) jam rfl rfl λv6 H4 b6 o4=>?_
  repeat (refine PL.k rfl λKK hKK=>?_;simp (disch:=omega) [go_sem,jj];refine hKK _ ?_;clear hKK KK)
  refine wao (id:=11) rfl rfl (by simp[jo]) (by simp[go_sem];rfl) b6 asz_66 (v :=.agg [I p.1,p.2]) (ps:=[I p.1,p.2]) (by simp[go_sem]) (by simp[okC,hp2];rfl) rfl rfl (by simp) (cs':=[I p.1,p.2]) rfl λH5 b6 o5=>?_
  repeat (first|(refine PC.seq λK hK=>?_)|(refine PC.region ?_)|(refine PL.done hK ?_;clear hK))
  have b1':H5 13=⟨v1,some (.box 26 (.sl wa ts :: .sl 1 bs :: .sl 2 (ps.map prV)::rest))⟩:=by rw[o5 13 (by decide),o4 13 (by decide)];exact b1
  have hq5:ownMR plv 3 1000 H5 10 q m:=hq.mono (by rw[o5 10 (by decide),o4 10 (by decide)]) (λj hj=>by rw[o5 j (by omega),o4 j (by omega)]);have hprN:NoP (.agg [I p.1,p.2]) :=.agg _ (λc hc=>by simp at hc;rcases hc with rfl|rfl;exact .u _;exact hp1);refine wa2 (p:=gV) rfl rfl rfl (by simp) (by simp[go_sem,f1];rfl) b1' hkg (by rw[wgn,<- hcs,J8 hlen,hgc]) ?_
  repeat (refine PL.k rfl λKK hKK=>?_;simp (disch:=omega) [go_sem,jj,f4,b6];refine hKK _ ?_;clear hKK KK)
  refine waj rfl rfl (by kernel_rfl) hpc (by simp[go_sem,prV]) (by simp[go_sem,hnp,hbn,hprN,prV]) (by simp[go_sem,View.noP hnp,View.noP hbn,View.noP hprN,prV]) ?_;obtain⟨l,el⟩:∃l,pr k=l:=⟨_,rfl⟩
  rw[el]at ha hpn⊢
  repeat (first|(refine PC.block ?_)|(refine PL.k rfl λKK hKK=>?_;simp (disch:=omega) [go_sem,jj];refine hKK _ ?_;clear hKK KK)|(refine PL.done hK ?_;clear hK))
  refine PC.loop (λf F H'=>∃(i:Nat)(q:PV)(m:PM),i<=l.length/\f=l.length-i/\zij k p.1 (l.drop i) m=some m1/\F 1=.pp 13 0 v1/\H' 13=⟨v1,some (.box 26 (.sl wa ts :: .sl 1 bs :: .sl 2 (ps.map prV)::rest))⟩/\F 3=q/\ownMR plv 3 1000 H' 10 q m/\F 4=beh/\F 14=.sl 2 (ps.map prV)/\F 15=I ps.length/\F 16=I k/\F 5=I k/\F 6=.pp 11 0 v6/\H' 11=⟨v6,some (.box 66 [I p.1,p.2])⟩/\F 24=slI l/\F 25=I l.length/\F 26=I i/\∀j,j<10->H' j=H j) (m:=l.length)
   ⟨0,q,m,by omega,by omega,ha,by simp[go_sem,f1],b1',by simp[go_sem,f3],hq5,by simp[go_sem,f4],by simp[go_sem,f14],by simp[go_sem,f15],by simp[go_sem,f16],by simp[go_sem],by simp[go_sem],b6,by simp[go_sem],by simp[go_sem],by simp[go_sem],λj hj=>by rw[o5 j (by omega),o4 j (by omega),o3 j hj]⟩ λf F H6 hI=>?_
  clear ha b1' hq5 b6 hq f1 f3 f4 f14 f15 f16 b1;obtain⟨i,q,m,hi,rfl,ha,f1,b1,f3,hq,f4,f14,f15,f16,f5,f6,b6,f24,f25,f26,o6⟩:=hI;by_cases hil:i<l.length
  ·have hil':(i:Int)<l.length:=by omega
   obtain⟨t,et⟩:∃t,l[i]=t:=⟨_,rfl⟩
   rw[we7 hil,et]at ha;unfold zij at ha;obtain⟨m2,hadd,ha⟩:=wgf.1 ha;have eI:(List.map I l)[i]?=some (I t):=by simp[hil,et]
   repeat (first|(refine PC.seq λK hK=>?_)|(refine PC.block ?_)|(refine PC.region ?_)|(refine PL.k rfl λKK hKK=>?_;simp (disch:=omega) [go_sem,jj,f24,f25,f26,hil',hil,et,eI,f6,b6,slI];refine hKK _ ?_;clear hKK KK)|(refine PL.k rfl λKK hKK=>?_;simp[go_sem,jj,f24,f25,f26,hil',hil,et,eI,f6,b6,slI];refine hKK _ ?_;clear hKK KK)|(refine PL.done hK ?_;clear hK)|(refine PC.skip (hK _ _ ?_);clear hK)|(refine wah ?_ ?_;focus (simp[go_sem,f24,f25,f26,hil',hil,et,eI,f6,b6,slI];done)))
   refine war 12 (d:=9) rfl rfl rfl (by simp) Yd rfl rfl λv9 H7 b9 o7=>?_;refine wao (id:=12) rfl rfl (by simp[jo]) (by simp[go_sem];rfl) b9 Y4 (v :=.agg [I p.1,I t]) (ps:=[I p.1,I t]) (by simp[go_sem,I]) rfl rfl rfl (by simp) (cs':=[I p.1,I t]) rfl λH8 b9 o8=>?_
   repeat (first|(refine PC.region ?_)|(refine PL.k rfl λKK hKK=>?_;simp (disch:=omega) [go_sem,jj,f3,f5,b9];refine hKK _ ?_;clear hKK KK)|(refine PL.done hK ?_;clear hK))
   refine way (d:=38) rfl rfl rfl (by simp) zz rfl (by omega) (ips:=[(0,I k)]) (by simp[go_sem,I]) rfl (ps:=[I k]) rfl ?_;have hq8:ownMR plv 3 1000 H8 10 q m:=hq.mono (by rw[o8 10 (by decide),o7 10 (by decide)]) (λj hj=>by rw[o8 j (by omega),o7 j (by omega)]);refine wdf (key:=113) (elem:=31) (id:=10) (base:=1000) (d1:=39) (d2:=36) (d3:=40) (d4:=41) (e:=3) (q:=q) (k:=(p.1,t)) (v:=k) (pk :=.agg [I p.1,I t]) z9b (by decide) (by kernel_rfl) zz (λw=>rfl) rfl rfl rfl rfl rfl rfl rfl rfl rfl rfl rfl rfl rfl rfl rfl (by simp) (by decide) (λF' h=>by simp only[evP];rw[h 34 (by decide) (by decide) (by decide) (by decide)];simp[go_sem,f3]) (by simp[go_sem]) rfl (λF' h=>by simp only[evP];rw[h 38 (by decide) (by decide) (by decide) (by decide)];simp[go_sem]) hq8 hadd λF9 H9 hF9 hq9 o9=>?_
   repeat (first|(refine PC.region ?_)|(refine PL.done hK ?_;clear hK))
   have g1:F9 1=.pp 13 0 v1:=by rw[hF9 1 (by decide) (by decide) (by decide) (by decide)];simp[go_sem,f1]
   have g3:F9 3=q:=by rw[hF9 3 (by decide) (by decide) (by decide) (by decide)];simp[go_sem,f3]
   have g4:F9 4=beh:=by rw[hF9 4 (by decide) (by decide) (by decide) (by decide)];simp[go_sem,f4]
   have g14:F9 14=.sl 2 (ps.map prV):=by rw[hF9 14 (by decide) (by decide) (by decide) (by decide)];simp[go_sem,f14]
   have g15:F9 15=I ps.length:=by rw[hF9 15 (by decide) (by decide) (by decide) (by decide)];simp[go_sem,f15]
   have g16:F9 16=I k:=by rw[hF9 16 (by decide) (by decide) (by decide) (by decide)];simp[go_sem,f16]
   have g5:F9 5=I k:=by rw[hF9 5 (by decide) (by decide) (by decide) (by decide)];simp[go_sem,f5]
   have g6:F9 6=.pp 11 0 v6:=by rw[hF9 6 (by decide) (by decide) (by decide) (by decide)];simp[go_sem,f6]
   have g24:F9 24=slI l:=by rw[hF9 24 (by decide) (by decide) (by decide) (by decide)];simp[go_sem,f24]
   have g25:F9 25=I l.length:=by rw[hF9 25 (by decide) (by decide) (by decide) (by decide)];simp[go_sem,f25]
   have g26:F9 26=I i:=by rw[hF9 26 (by decide) (by decide) (by decide) (by decide)];simp[go_sem,f26]
   repeat (refine PL.k rfl λKK hKK=>?_;simp (disch:=omega) [go_sem,jj,g26];refine hKK _ ?_;clear hKK KK)
   refine PL.nil ⟨l.length-(i+1),by omega,i+1,q,m2,by omega,rfl,ha,?_⟩;exact⟨by simp[go_sem,g1],by rw[o9 13 (by decide) (by decide),o8 13 (by decide),o7 13 (by decide)];exact b1,by simp[go_sem,g3],hq9,by simp[go_sem,g4],by simp[go_sem,g14],by simp[go_sem,g15],by simp[go_sem,g16],by simp[go_sem,g5],by simp[go_sem,g6],by rw[o9 11 (by decide) (by decide),o8 11 (by decide),o7 11 (by decide)];exact b6,by simp[go_sem,g24],by simp[go_sem,g25],by simp[go_sem],λj hj=>by rw[o9 j (by omega) (by omega),o8 j (by omega),o7 j (by omega),o6 j hj]⟩
  ·have hil':¬(i:Int)<l.length:=by omega
   have hie:i=l.length:=by omega
   rw[hie,wf2]at ha;unfold zij at ha;cases ha
   repeat (first|(refine PC.seq λK hK=>?_)|(refine PC.region ?_)|(refine PL.k rfl λKK hKK=>?_;simp (disch:=omega) [go_sem,jj,f25,f26,hil',f16];refine hKK _ ?_;clear hKK KK)|(refine PL.done hK ?_;clear hK)|(refine wag ?_ ?_;focus (simp[go_sem,f25,f26,hil',f16];done))|(refine PC.exit ?_;first|(refine hK _ _ ?_;clear hK)|(clear hK;refine hK _ _ ?_;clear hK)|(clear hK;clear hK;refine hK _ _ ?_;clear hK)))
   refine PL.nil ⟨ps.length-(k+1),by omega,k+1,q,_,by omega,rfl,hm,?_⟩;exact⟨by simp[go_sem,f1],b1,by simp[go_sem,f3],hq,by simp[go_sem,f4],by simp[go_sem,f14],by simp[go_sem,f15],by simp[go_sem],o6⟩
 ·have hlt':¬(k:Int)<ps.length:=by omega
  have hke:k=ps.length:=by omega
  rw[hke,wf2,wfk]at hm;unfold zex at hm;cases hm
  repeat (first|(refine PC.seq λK hK=>?_)|(refine PC.region ?_)|(refine PL.k rfl λKK hKK=>?_;simp (disch:=omega) [go_sem,jj,f15,f16,hlt',f3];refine hKK _ ?_;clear hKK KK)|(refine PL.done hK ?_;clear hK)|(refine wag ?_ ?_;focus (simp[go_sem,f15,f16,hlt',f3];done))|(refine PC.exit ?_;first|(refine hK _ _ ?_;clear hK)|(clear hK;refine hK _ _ ?_;clear hK)|(clear hK;clear hK;refine hK _ _ ?_;clear hK)))
  exact PC.ret ⟨.inr rfl,q,by simp[Qi,z6,Tryz.results73,go_sem],hq,o3⟩
def ltP(a b:Int×Int):Prop:=a.1<b.1\/a.1=b.1/\a.2<b.2
instance (a b:Int×Int):Decidable (ltP a b):=by unfold ltP;infer_instance
def zvg(acc:(Int×Int)×Bool)(e:(Int×Int)×List Int):(Int×Int)×Bool:=if e.2.length<2\/acc.2=true/\ltP acc.1 e.1 then acc else(e.1,true)
def jx(m:PM):(Int×Int)×Bool:=m.foldl zvg ((0,0),false)
def ClP(S:(Int×Int)×List Int->Prop)(r:(Int×Int)×Bool):Prop:=
 (r=((0,0),false)/\∀e,S e->e.2.length<2)\/(r.2=true/\(∃e,S e/\e.1=r.1/\2<=e.2.length)/\∀e,S e->2<=e.2.length->¬ltP e.1 r.1)
theorem z5w{a b:Int×Int}(h1:¬ltP a b)(h2:¬ltP b a):a=b:=by
 unfold ltP at h1 h2;obtain⟨a1,a2⟩:=a;obtain⟨b1,b2⟩:=b;simp only at h1 h2;have e1:a1=b1:=by omega
 have e2:a2=b2:=by omega
 rw[e1,e2]
theorem ClP.step{S:(Int×Int)×List Int->Prop}{r:(Int×Int)×Bool}(h:ClP S r)(e:(Int×Int)×List Int):ClP (λx=>S x\/x=e) (zvg r e):=by
 unfold zvg;split
 ·rename_i hc;rcases h with⟨rfl,h⟩|⟨h1,⟨x,h2,h3,h4⟩,h5⟩
  ·have hl:e.2.length<2:=by rcases hc with hc|⟨hc,_⟩;exact hc;cases hc
   exact .inl ⟨rfl,λy hy=>by rcases hy with hy|rfl;exact h y hy;exact hl⟩
  ·refine .inr ⟨h1,⟨x,.inl h2,h3,h4⟩,λy hy hl=>?_⟩;rcases hy with hy|rfl
   ·exact h5 y hy hl
   ·rcases hc with hc|⟨_,hc⟩
    ·omega
    ·unfold ltP at hc⊢;omega
 ·rename_i hc;have hl:2<=e.2.length:=by
   rcases wg9 e.2.length 2 with h|h
   ·exact absurd (.inl h) hc
   ·exact h
  refine .inr ⟨rfl,⟨e,.inr rfl,rfl,hl⟩,λy hy hyl=>?_⟩;rcases hy with hy|rfl
  ·rcases h with⟨rfl,h⟩|⟨h1,_,h5⟩
   ·have:=h y hy;omega
   ·have h6:=h5 y hy hyl;have h7:¬ltP r.1 e.1:=λh=>hc (.inr ⟨h1,h⟩);unfold ltP at h6 h7⊢;simp only at h6 h7⊢;omega
  ·unfold ltP;simp only;omega
theorem ClP.uniq{S:(Int×Int)×List Int->Prop}{r s:(Int×Int)×Bool}(h:ClP S r)(g:ClP S s):r=s:=by
 rcases h with⟨rfl,h⟩|⟨h1,⟨x,h2,h3,h4⟩,h5⟩
 ·rcases g with⟨rfl,_⟩|⟨_,⟨x,g2,_,g4⟩,_⟩
  ·rfl
  ·have:=h x g2;omega
 ·rcases g with⟨rfl,g⟩|⟨g1,⟨y,g2,g3,g4⟩,g5⟩
  ·have:=g x h2;omega
  ·have e1:r.1=s.1:=by
    have k1:=h5 y g2 g4;have k2:=g5 x h2 h4;rw[h3]at k2;rw[g3]at k1;exact z5w k2 k1
   obtain⟨r1,r2⟩:=r;obtain⟨s1,s2⟩:=s;simp only at e1 h1 g1;rw[e1,h1,g1]
theorem zg3(m:PM):ClP (λe=>e∈m) (jx m):=by
 suffices ∀(l:PM)(S:(Int×Int)×List Int->Prop)(r:(Int×Int)×Bool),ClP S r->ClP (λe=>S e\/e∈l) (l.foldl zvg r) by
  have h:=this m (λ_=>False) ((0,0),false) (.inl ⟨rfl,λe h=>h.elim⟩);have e:(λe=>False\/e∈m)=λe=>e∈m:=by funext e;simp
  rw[e]at h;exact h
 intro l;induction l with
 |nil=>
  intro S r h;have e:(λe=>S e\/e∈([]:PM))=S:=by funext e;simp
  rw[e];exact h
 |cons x l ih=>
  intro S r h;have:=ih _ _ (h.step x);have e:(λe=>S e\/e∈x::l)=λe=>(S e\/e=x)\/e∈l:=by funext e;simp[or_assoc]
  rw[e];exact this
theorem wcf{P:Program}{W:Env}{n:Nat}{H:PHeap}{F:PFrame}{ops:Array Oper}{o:Oper}{l:List Oper}{K:PFrame->PHeap->Prop}{x:Operand}{t e k d id m:Nat}{q:PV}{cs:List PV}(hg:o.guard=none)(ho:o.op=.call { callee :=.builtin .len,args:=#[x],argTypes:=#[t] })(hd:o.dst=some d)(hdn:d<n)(ht:y7 P t=true)(hx:evP F x=q)(hq:OwnS H e k id q m cs)
  (h:PL P W n ops l (F.put (some d) (I m)) H K):PL P W n ops (o::l) F H K:=by
 refine waz hg (wak (λt ht=>by rw[hd]at ht;cases ht;exact hdn) (jh ?_) (by rw[hd];exact h));unfold jr;rw[ho];subst hx;exact OwnS.len ht hq
theorem zru(H:PHeap)(q:PV)(m:PM)(hq:ownMR plv 3 1000 H 10 q m):
  PIn Tryz.prog 74 [q] H (λr H'=>r=.tup [.agg [I (jx m).1.1,I (jx m).1.2],.u (.bool (jx m).2)]/\∀j,j<20\/1000<=j->H' j=H j):=by
 refine wbx Tryz.func74 rfl Tryz.ntmps74 (by simp) (by kernel_rfl) λW=>?_;obtain⟨ver,bs,clock,cs,rfl,hH,hbl,⟨hnd,_⟩,hcl,hrows⟩:=hq;refine PC.seq λK hK=>?_;refine PC.region ?_;refine war 21 (d:=2) rfl rfl rfl (by simp) Yd rfl rfl λv2 H1 b2 o1=>?_
 repeat (first|(refine PC.seq λK hK=>?_)|(refine PC.region ?_)|(refine PL.k rfl λKK hKK=>?_;simp (disch:=omega) [go_sem,jj];refine hKK _ ?_;clear hKK KK)|(refine PL.done hK ?_;clear hK))
 refine war 22 (d:=4) rfl rfl rfl (by simp) Yd rfl rfl λv4 H2 b4 o2=>?_;refine wao (id:=22) rfl rfl (by simp[jo]) (by simp[go_sem];rfl) b4 Y4 (v :=.agg [I 0,I 0]) (ps:=[I 0,I 0]) (by simp[go_sem,I]) rfl rfl rfl (by simp) (cs':=[I 0,I 0]) rfl λH3 b4 o3=>?_
 repeat (first|(refine PC.seq λK hK=>?_)|(refine PC.region ?_)|(refine PL.k rfl λKK hKK=>?_;simp (disch:=omega) [go_sem,jj];refine hKK _ ?_;clear hKK KK)|(refine PL.done hK ?_;clear hK))
 have hH3:H3 10=⟨ver,some (Vw ((m.map (·.1)).map plv) bs clock cs)⟩:=by rw[o3 10 (by decide),o2 10 (by decide),o1 10 (by decide)];exact hH
 refine waz rfl (wcg (id:=10) (r:=23) (d:=10) (key:=113) (elem:=31) rfl rfl (by simp) (by kernel_rfl) (by decide) hH3 (by simp[go_sem]) ?_)
 repeat (first|(refine PC.block ?_)|(refine PL.done hK ?_;clear hK))
 generalize hv10:(H3 23).ver+1=v10;have hkv:∀(j:Nat)(k:Value),((m.map (·.1)).map plv)[j]?=some k->∃e,m[j]?=some e/\k=plv e.1:=λj k h=>by
  rw[web,web]at h;cases he:m[j]? with
  |none=>rw[he]at h;cases h
  |some e=>rw[he]at h;cases h;exact⟨e,rfl,rfl⟩
 refine PC.loop (λf F H'=>∃(seen:Array Nat)(r:(Int×Int)×Bool),f=(bs.filter λb=>!seen.contains b).length/\ClP (λe=>∃(j b:Nat),m[j]?=some e/\bs[j]?=some b/\seen.contains b=true) r/\F 2=.pp 21 0 v2/\H' 21=⟨v2,some (.box 113 [I 0,I 0])⟩/\F 4=.pp 22 0 v4/\H' 22=⟨v4,some (.box 113 [I r.1.1,I r.1.2])⟩/\F 5=B r.2/\F 10=.ps 23 v10/\H' 23=⟨v10,some (itB 10 ver clock seen clock)⟩/\∀j,j<20\/1000<=j->H' j=H j) (m:=(bs.filter λb=>!(#[]:Array Nat).contains b).length)
  ⟨#[],((0,0),false),rfl,.inl ⟨rfl,λe⟨j,b,_,_,h⟩=>by simp at h⟩,by simp[go_sem],by simp[PHeap.set];rw[o3 21 (by decide),o2 21 (by decide)];exact b2,by simp[go_sem],by simp[PHeap.set];exact b4,by simp[go_sem],by simp[go_sem],by simp[PHeap.set],λj hj=>by simp only[PHeap.set];rw[if_neg (by omega),o3 j (by omega),o2 j (by omega),o1 j (by omega)]⟩ λf F H4 hI=>?_
 obtain⟨seen,r,rfl,hr,f2,b21,f4,b22,f5,f10,b23,hoth⟩:=hI;have b10:H4 10=⟨ver,some (Vw ((m.map (·.1)).map plv) bs clock cs)⟩:=by rw[hoth 10 (.inl (by decide))];exact hH
 refine PC.seq λK hK=>?_;refine PC.region ?_;refine waz rfl (wcx (id:=10) (r:=23) rfl (by simp[jo]) b10 b23 (by simp[go_sem,f10]) (λhall=>?_) λj b c kk hbj hcj hkj hsn=>?_)
 ·repeat (first|(refine PC.seq λK hK=>?_)|(refine PC.region ?_)|(refine PL.k rfl λKK hKK=>?_;simp (disch:=omega) [go_sem,jj,f4,f5,b22];refine hKK _ ?_;clear hKK KK)|(refine PL.done hK ?_;clear hK)|(refine wag ?_ ?_;focus (simp[go_sem,f4,f5,b22];done))|(refine PC.exit ?_;first|(refine hK _ _ ?_;clear hK)|(clear hK;refine hK _ _ ?_;clear hK)|(clear hK;clear hK;refine hK _ _ ?_;clear hK)))
  refine wao (id:=21) rfl rfl (by simp[jo]) (by simp[go_sem,f2];rfl) b21 Y4 (v :=.agg [I r.1.1,I r.1.2]) (ps:=[I r.1.1,I r.1.2]) (by simp[go_sem]) rfl rfl rfl (by simp) (cs':=[I r.1.1,I r.1.2]) rfl λH5 b21 o5=>?_
  repeat (first|(refine PL.k rfl λKK hKK=>?_;simp (disch:=omega) [go_sem,jj];refine hKK _ ?_;clear hKK KK)|(refine PL.done hK ?_;clear hK))
  have hS:(λe=>∃(j b:Nat),m[j]?=some e/\bs[j]?=some b/\seen.contains b=true)=λe=>e∈m:=by
   funext e;apply propext;constructor
   ·rintro⟨j,b,h,_,_⟩;exact wd7 h
   ·intro h;obtain⟨j,hj⟩:=wes h;have hlt:=(wd5.1 hj).1;obtain⟨b,hb⟩:∃b,bs[j]?=some b:=⟨_,wd2 (by omega)⟩
    exact⟨j,b,hj,hb,hall b (wd7 hb)⟩
  rw[hS]at hr;have er:=hr.uniq (zg3 m);rw[<- er];exact PC.ret ⟨.inr rfl,.tup [.agg [I r.1.1,I r.1.2],.u (.bool r.2)],by simp[Qi,z6,Tryz.results74,go_sem,f2,yc,jl,b21,qw],rfl,λj hj=>by rw[o5 j (by omega)];exact hoth j hj⟩
 ·obtain⟨e,he,rfl⟩:=hkv j kk hkj;generalize eH5:H4.set 23 ⟨v10,some (itB 10 ver clock (seen.push b) clock)⟩=H5;have b23':H5 23=⟨v10,some (itB 10 ver clock (seen.push b) clock)⟩:=by rw[<- eH5];simp[PHeap.set]
  have o5:∀j,j≠23->H5 j=H4 j:=λj hj=>by rw[<- eH5];simp[PHeap.set,hj]
  have hofV:ofV (plv e.1)=.agg [I e.1.1,I e.1.2]:=rfl;rw[hofV]
  repeat (first|(refine PC.seq λK hK=>?_)|(refine PC.block ?_)|(refine PC.region ?_)|(refine PL.k rfl λKK hKK=>?_;simp (disch:=omega) [go_sem,jj];refine hKK _ ?_;clear hKK KK)|(refine PL.done hK ?_;clear hK)|(refine PC.skip (hK _ _ ?_);clear hK)|(refine wah ?_ ?_;focus (simp[go_sem];done)))
  refine waz rfl (wak (by simp[jo]) (wce (id:=10) (r:=23) (j:=j) (b:=b) (c:=c) (k:=plv e.1) rfl (by rw[o5 10 (by decide)];exact b10) b23' (by simp[go_sem,f10]) hbj hcj hkj) ?_);rw[hofV]
  repeat (refine PL.k rfl λKK hKK=>?_;simp (disch:=omega) [go_sem,jj];refine hKK _ ?_;clear hKK KK)
  refine war 24 (d:=6) rfl rfl rfl (by simp) Yd rfl rfl λv6 H6 b6 o6=>?_;refine wao (id:=24) rfl rfl (by simp[jo]) (by simp[go_sem];rfl) b6 Y4 (v :=.agg [I e.1.1,I e.1.2]) (ps:=[I e.1.1,I e.1.2]) (by simp[go_sem]) rfl rfl rfl (by simp) (cs':=[I e.1.1,I e.1.2]) rfl λH7 b6 o7=>?_;have hrow:OwnS H7 3 1 (1000+j) c e.2.length _:=(hrows j c e hcj he).mono (by rw[o7 _ (by omega),o6 _ (by omega),o5 _ (by omega),hoth _ (.inr (by omega))]);have b22':H7 22=⟨v4,some (.box 113 [I r.1.1,I r.1.2])⟩:=by rw[o7 22 (by decide),o6 22 (by decide),o5 22 (by decide)];exact b22
  have b21':H7 21=⟨v2,some (.box 113 [I 0,I 0])⟩:=by rw[o7 21 (by decide),o6 21 (by decide),o5 21 (by decide)];exact b21
  have b23':H7 23=⟨v10,some (itB 10 ver clock (seen.push b) clock)⟩:=by rw[o7 23 (by decide),o6 23 (by decide)];exact b23'
  have hoth':∀j,j<20\/1000<=j->H7 j=H j:=λj hj=>by rw[o7 j (by omega),o6 j (by omega),o5 j (by omega)];exact hoth j hj
  repeat (first|(refine PC.seq λK hK=>?_)|(refine PC.region ?_)|(refine PL.k rfl λKK hKK=>?_;simp (disch:=omega) [go_sem,jj];refine hKK _ ?_;clear hKK KK)|(refine PL.done hK ?_;clear hK))
  refine wcf rfl rfl rfl (by simp) (by kernel_rfl) (q:=c) (by simp[go_sem]) hrow ?_;have hstep:=hr.step e;have hS:(λx=>(∃(j b:Nat),m[j]?=some x/\bs[j]?=some b/\seen.contains b=true)\/x=e)=λx=>∃(j' b':Nat),m[j']?=some x/\bs[j']?=some b'/\(seen.push b).contains b'=true:=by
   funext x;apply propext;simp only[contains_push,wft,beq_iff_eq];constructor
   ·rintro(⟨j',b',h1,h2,h3⟩|rfl)
    ·exact⟨j',b',h1,h2,.inl h3⟩
    ·exact⟨j,b,he,hbj,.inr rfl⟩
   ·rintro⟨j',b',h1,h2,h3|rfl⟩
    ·exact .inl ⟨j',b',h1,h2,h3⟩
    ·right;have hjj:j'=j:=by
      have h4:=wd5.1 h2;have h5:=wd5.1 hbj;exact(List.getElem_inj hnd).1 (h4.2.trans h5.2.symm)
     rw[hjj,he]at h1;cases h1;rfl
  rw[hS]at hstep;have hms:(bs.filter λb'=>!(seen.push b).contains b').length<(bs.filter λb'=>!seen.contains b').length:=
   filter_lt _ _ (λx hx=>by simp only[contains_push,Bool.not_or,wd8]at hx;exact hx.1) b (by show(!seen.contains b)=true;rw[hsn];rfl) (by simp[contains_push]) bs (wd7 hbj)
  generalize hr2:zvg r e=r2 at hstep;unfold zvg at hr2;by_cases h2:e.2.length<2
  ·rw[if_pos (.inl h2)]at hr2;subst hr2;have h2':(e.2.length:Int)<2:=by omega
   repeat (first|(refine PL.k rfl λKK hKK=>?_;simp (disch:=omega) [go_sem,jj,h2',f5];refine hKK _ ?_;clear hKK KK)|(refine PL.g rfl rfl λKK hKK=>?_;simp (disch:=omega) [go_sem,L.stepG,h2',f5];refine hKK _ ?_;clear hKK KK)|(refine PL.done hK ?_;clear hK)|(refine wah ?_ ?_;focus (simp[go_sem,h2',f5];done)))
   refine PC.exit ?_;refine⟨_,hms,seen.push b,r,rfl,hstep,by simp[go_sem,f2],b21',by simp[go_sem,f4],b22',by simp[go_sem,f5],by simp[go_sem,f10],b23',hoth'⟩
  ·have h2':¬(e.2.length:Int)<2:=by omega
   cases hr1:r.2
   ·rw[if_neg (by rw[hr1];simp;omega)]at hr2;subst hr2;have f5':F 5=.u (.bool false):=by rw[f5,hr1]
    repeat (first|(refine PC.region ?_)|(refine PL.k rfl λKK hKK=>?_;simp (disch:=omega) [go_sem,jj,h2',f5',hr1];refine hKK _ ?_;clear hKK KK)|(refine PL.g rfl rfl λKK hKK=>?_;simp (disch:=omega) [go_sem,L.stepG,h2',f5',hr1];refine hKK _ ?_;clear hKK KK)|(refine PL.done hK ?_;clear hK)|(refine PC.skip (hK _ _ ?_);clear hK)|(refine wag ?_ ?_;focus (simp[go_sem,h2',f5',hr1];done)))
    repeat (refine PL.k rfl λKK hKK=>?_;simp (disch:=omega) [go_sem,jj,b6];refine hKK _ ?_;clear hKK KK)
    refine wao (id:=22) rfl rfl (by simp[jo]) (by simp[go_sem,f4];rfl) b22' Y4 (v :=.agg [I e.1.1,I e.1.2]) (ps:=[I e.1.1,I e.1.2]) (by simp[go_sem]) rfl rfl rfl (by simp) (cs':=[I e.1.1,I e.1.2]) rfl λH8 b8 o8=>?_
    repeat (refine PL.k rfl λKK hKK=>?_;simp (disch:=omega) [go_sem,jj];refine hKK _ ?_;clear hKK KK)
    refine PL.nil ?_;refine⟨_,hms,seen.push b,(e.1,true),rfl,hstep,by simp[go_sem,f2],by rw[o8 21 (by decide)];exact b21',by simp[go_sem,f4],b8,by simp[go_sem],by simp[go_sem,f10],by rw[o8 23 (by decide)];exact b23',λj hj=>by rw[o8 j (by omega)];exact hoth' j hj⟩
   ·have f5':F 5=.u (.bool true):=by rw[f5,hr1]
    by_cases h3:r.1.1<e.1.1
    ·rw[if_pos (.inr ⟨hr1,.inl h3⟩)]at hr2;subst hr2
     repeat (first|(refine PL.k rfl λKK hKK=>?_;simp (disch:=omega) [go_sem,jj,h2',f5',hr1,f4,b22',b6,h3];refine hKK _ ?_;clear hKK KK)|(refine PL.g rfl rfl λKK hKK=>?_;simp (disch:=omega) [go_sem,L.stepG,h2',f5',hr1,f4,b22',b6,h3];refine hKK _ ?_;clear hKK KK)|(refine PL.done hK ?_;clear hK)|(refine wah ?_ ?_;focus (simp[go_sem,h2',f5',hr1,f4,b22',b6,h3];done)))
     refine PC.exit ?_;refine⟨_,hms,seen.push b,r,rfl,hstep,by simp[go_sem,f2],b21',by simp[go_sem,f4],b22',by simp[go_sem,f5],by simp[go_sem,f10],b23',hoth'⟩
    ·by_cases h4:r.1.1=e.1.1
     ·by_cases h5:r.1.2<e.1.2
      ·rw[if_pos (.inr ⟨hr1,.inr ⟨h4,h5⟩⟩)]at hr2;subst hr2
       repeat (first|(refine PL.k rfl λKK hKK=>?_;simp (disch:=omega) [go_sem,jj,h2',f5',hr1,f4,b22',b6,h3,h4,h5];refine hKK _ ?_;clear hKK KK)|(refine PL.g rfl rfl λKK hKK=>?_;simp (disch:=omega) [go_sem,L.stepG,h2',f5',hr1,f4,b22',b6,h3,h4,h5];refine hKK _ ?_;clear hKK KK)|(refine PL.done hK ?_;clear hK)|(refine wah ?_ ?_;focus (simp[go_sem,h2',f5',hr1,f4,b22',b6,h3,h4,h5];done)))
       refine PC.exit ?_;refine⟨_,hms,seen.push b,r,rfl,hstep,by simp[go_sem,f2],b21',by simp[go_sem,f4],b22',by simp[go_sem,f5],by simp[go_sem,f10],b23',hoth'⟩
      ·rw[if_neg (by rw[hr1];unfold ltP;omega)]at hr2;subst hr2
       repeat (first|(refine PC.region ?_)|(refine PL.k rfl λKK hKK=>?_;simp (disch:=omega) [go_sem,jj,h2',f5',hr1,f4,b22',b6,h3,h4,h5];refine hKK _ ?_;clear hKK KK)|(refine PL.g rfl rfl λKK hKK=>?_;simp (disch:=omega) [go_sem,L.stepG,h2',f5',hr1,f4,b22',b6,h3,h4,h5];refine hKK _ ?_;clear hKK KK)|(refine PL.done hK ?_;clear hK)|(refine PC.skip (hK _ _ ?_);clear hK)|(refine wag ?_ ?_;focus (simp[go_sem,h2',f5',hr1,f4,b22',b6,h3,h4,h5];done)))
       skip
       refine wao (id:=22) rfl rfl (by simp[jo]) (by simp[go_sem,f4];rfl) b22' Y4 (v :=.agg [I e.1.1,I e.1.2]) (ps:=[I e.1.1,I e.1.2]) (by simp[go_sem]) rfl rfl rfl (by simp) (cs':=[I e.1.1,I e.1.2]) rfl λH8 b8 o8=>?_
       repeat (refine PL.k rfl λKK hKK=>?_;simp (disch:=omega) [go_sem,jj];refine hKK _ ?_;clear hKK KK)
       refine PL.nil ?_;refine⟨_,hms,seen.push b,(e.1,true),rfl,hstep,by simp[go_sem,f2],by rw[o8 21 (by decide)];exact b21',by simp[go_sem,f4],b8,by simp[go_sem],by simp[go_sem,f10],by rw[o8 23 (by decide)];exact b23',λj hj=>by rw[o8 j (by omega)];exact hoth' j hj⟩
     ·rw[if_neg (by rw[hr1];unfold ltP;omega)]at hr2;subst hr2
      repeat (first|(refine PC.region ?_)|(refine PL.k rfl λKK hKK=>?_;simp (disch:=omega) [go_sem,jj,h2',f5',hr1,f4,b22',b6,h3,h4];refine hKK _ ?_;clear hKK KK)|(refine PL.g rfl rfl λKK hKK=>?_;simp (disch:=omega) [go_sem,L.stepG,h2',f5',hr1,f4,b22',b6,h3,h4];refine hKK _ ?_;clear hKK KK)|(refine PL.done hK ?_;clear hK)|(refine PC.skip (hK _ _ ?_);clear hK)|(refine wag ?_ ?_;focus (simp[go_sem,h2',f5',hr1,f4,b22',b6,h3,h4];done)))
      skip
      refine wao (id:=22) rfl rfl (by simp[jo]) (by simp[go_sem,f4];rfl) b22' Y4 (v :=.agg [I e.1.1,I e.1.2]) (ps:=[I e.1.1,I e.1.2]) (by simp[go_sem]) rfl rfl rfl (by simp) (cs':=[I e.1.1,I e.1.2]) rfl λH8 b8 o8=>?_
      repeat (refine PL.k rfl λKK hKK=>?_;simp (disch:=omega) [go_sem,jj];refine hKK _ ?_;clear hKK KK)
      refine PL.nil ?_;refine⟨_,hms,seen.push b,(e.1,true),rfl,hstep,by simp[go_sem,f2],by rw[o8 21 (by decide)];exact b21',by simp[go_sem,f4],b8,by simp[go_sem],by simp[go_sem,f10],by rw[o8 23 (by decide)];exact b23',λj hj=>by rw[o8 j (by omega)];exact hoth' j hj⟩
end Go.Proofs.YtdllbdlnmjngcaaGreat
namespace Go.Proofs.YtdllbdlnmjngcaaGreat.T
set_option maxRecDepth 100000
set_option maxHeartbeats 8000000
set_option linter.unusedVariables false
set_option linter.unusedSimpArgs false
open Go Go.RowKit L
section
variable{P:Program}{W:Env}{n:Nat}
inductive PSteps(P:Program)(W:Env)(n:Nat)(ops:Array Oper):List Oper->PFrame->PHeap->List OC->List RT->PFrame->PHeap->Prop
 |nil {F:PFrame}{H:PHeap}:PSteps P W n ops [] F H [] [] F H
 |cons {o:Oper}{l:List Oper}{F F2:PFrame}{H H2:PHeap}{c:OC}{rt:RT}{cs:List OC}{rts:List RT}
   (h:∀F' H',(∀t∈o.looksAt ops,F' t=F t)->(∀k,(k∈rt.rd\/ids c.ws k=true)->H' k=H k)->zmw P W n ops o F' H' c) (ht:∀k,ids c.ws k=true->k∈rt.tc)
   (hs:PSteps P W n ops l (F.put o.dst c.p) (zw H c.ws) cs rts F2 H2):PSteps P W n ops (o::l) F H (c::cs) (rt::rts) F2 H2
theorem PSteps.len{ops:Array Oper}:∀{l:List Oper}{F F2:PFrame}{H H2:PHeap}{cs:List OC}{rts:List RT},PSteps P W n ops l F H cs rts F2 H2->cs.length=l.length/\rts.length=l.length
 |[],_,_,_,_,_,_,.nil=>⟨rfl,rfl⟩
 |_::_,_,_,_,_,_,_,.cons h ht hs=>by simp[(PSteps.len hs).1,(PSteps.len hs).2]
theorem PSteps.at{ops:Array Oper}{F0:PFrame}{H0:PHeap}{oc:Nat->OC}{rtf:Nat->RT}:∀{l:List Oper}{F F2:PFrame}{H H2:PHeap}{cs:List OC}{rts:List RT}(i:Nat),PSteps P W n ops l F H cs rts F2 H2->(∀m o,l[m]?=some o->ops[i+m]?=some o)->(∀m c,cs[m]?=some c->oc (i+m)=c)->(∀m rt,rts[m]?=some rt->rtf (i+m)=rt) ->
  F=fAt ops oc F0 (λ_=>true) i->H=hAt oc H0 (λ_=>true) i ->
  (∀m o,l[m]?=some o->∀F H,(∀t∈o.looksAt ops,F t=fAt ops oc F0 (λ_=>true) (i+m) t)->(∀k,(k∈(rtf (i+m)).rd\/ids (oc (i+m)).ws k=true)->H k=hAt oc H0 (λ_=>true) (i+m) k)->zmw P W n ops o F H (oc (i+m))) /\
  (∀m o,l[m]?=some o->∀k,ids (oc (i+m)).ws k=true->k∈(rtf (i+m)).tc) /\
  F2=fAt ops oc F0 (λ_=>true) (i+l.length)/\H2=hAt oc H0 (λ_=>true) (i+l.length)
 |[],_,_,_,_,_,_,i,.nil,_,_,_,hF,hH=>⟨λm o h=>by simp at h,λm o h=>by simp at h,hF,hH⟩
 |o::l,F,F2,H,H2,_,_,i,.cons (c:=c) (rt:=rt) h ht hs,hl,hc,hr,hF,hH=>by
  have hoc:oc i=c:=hc 0 c rfl;have hrt:rtf i=rt:=hr 0 rt rfl;have ho:ops[i]?=some o:=hl 0 o rfl;have e:∀m,i+(m+1)=i+1+m:=λm=>by omega
  obtain⟨k1,k2,k3,k4⟩:=PSteps.at (i+1) hs (λm o' hm=>by rw[<- e];exact hl (m+1) o' (by simpa using hm)) (λm c' hm=>by rw[<- e];exact hc (m+1) c' (by simpa using hm)) (λm r' hm=>by rw[<- e];exact hr (m+1) r' (by simpa using hm))
   (by rw[zy5 ho,<- hF,hoc]) (by rw[z0y,<- hH,hoc])
  refine⟨λm o' hm=>?_,λm o' hm=>?_,by rw[we2,e];exact k3,by rw[we2,e];exact k4⟩
  ·cases m with
   |zero=>
    simp only[wge,we6]at hm;subst hm;intro F' H' h1 h2;simp only[wfu]at h1 h2⊢;rw[hoc]at h2⊢;rw[hrt]at h2;exact h F' H' (λt ht=>by rw[h1 t ht,hF]) λk hk=>by rw[h2 k hk,hH]
   |succ m=>rw[e];exact k1 m o' (by simpa using hm)
  ·cases m with
   |zero=>
    simp only[wfu];rw[hoc,hrt];exact ht
   |succ m=>rw[e];exact k2 m o' (by simpa using hm)
theorem PSteps.drawn(hm:P.follows .mixedOrders=true){ops:Array Oper}{id:Nat}{F F2:PFrame}{H H2:PHeap}{cs:List OC}{rts:List RT}(hs:PSteps P W n ops ops.toList F H cs rts F2 H2)(hdo:zqz ops rts=true):PC P W n (.region id ops true) F H λe F' H'=>e=.normal/\F'=F2/\H'=H2:=by
 unfold zqz at hdo;simp only[wd8]at hdo;obtain⟨hfw,hdr⟩:=hdo;obtain⟨l1,l2⟩:=hs.len;have hget:∀(m:Nat)o,ops.toList[m]?=some o->ops[0+m]?=some o:=λm o h=>by rw[wfa];simpa using h
 obtain⟨k1,k2,k3,k4⟩:=PSteps.at (F0:=F) (H0:=H) (oc:=ocF cs) (rtf:=rtF rts) 0 hs hget (λm c hc=>by unfold ocF;rw[wfa,we8,hc];rfl) (λm rt hc=>by unfold rtF;rw[wfa,we8,hc];rfl) rfl rfl;simp only[wfa]at k1 k2 k3 k4;have hanc:=zx6 (ops:=ops) ops.toList [] (λk o hk=>by simpa using hk) (λk i hk=>by simp at hk);refine wb7 (oc:=ocF cs) (rt:=λm k=>(rtF rts m).rd.any λid=>Nat.beq id k) (Inv:=λ_ _=>True) (λS=>trivial) hm (λi o ho F' H' _ h1 h2=>k1 i o (by simpa using ho) F' H' h1 λk hk=>h2 k ?_) (λi j hij hj hmt=>?_) (λj o ho e he hb=>?_) ⟨rfl,?_,?_⟩
 ·rcases hk with hk|hk
  ·exact .inl (wgq.2 ⟨k,hk,by simp⟩)
  ·exact .inr hk
 ·obtain⟨oj,hoj⟩:∃o,ops[j]?=some o:=⟨_,wet hj⟩
  obtain⟨oi,hoi⟩:∃o,ops[i]?=some o:=⟨_,wet (show i<ops.size by omega)⟩
  have hlen:ops.toList.length=ops.size:=by simp
  have hrj:rts[j]?=some (rtF rts j):=by unfold rtF;rw[we8,wd2 (by omega)];rfl
  have hri:rts[i]?=some (rtF rts i):=by unfold rtF;rw[we8,wd2 (by omega)];rfl
  refine hanc j i ?_;have key:=zgj (pre:=[]) (prt:=[]) rfl hdr j _ _ (by simpa using hoj) hrj i _ _ (by simpa using hij) (by simpa using hoi) (by simpa using hri);simp only[wgp,wfa]at key;refine key ?_;have rdm:∀m k,((rtF rts m).rd.any λid=>Nat.beq id k)=true->k∈(rtF rts m).rd:=λm k h=>by
   obtain⟨id,h1,h2⟩:=wgq.1 h;exact(wd9 h2)▸h1
  unfold zzr;simp only[wft];rcases hmt with⟨t,h1,h2⟩|⟨t,h1,o,h2,h3⟩|⟨k,h1,h2⟩|⟨k,h1,h2⟩
  ·have m1:=zds hoi h1;rcases h2 with h2|⟨o,h2,h3⟩
   ·exact .inl (.inl (.inl (.inl (.inl (Jc m1 (zds hoj h2))))))
   ·rw[hoj]at h2;cases h2;exact .inl (.inl (.inl (.inl (.inr (Jc m1 h3)))))
  ·rw[hoi]at h2;cases h2;exact .inl (.inl (.inl (.inr (Jc (zds hoj h1) h3))))
  ·have a1:=k2 i _ (by simpa using hoi) k h1;rcases h2 with h2|h2
   ·exact .inl (.inl (.inr (Jc a1 (k2 j _ (by simpa using hoj) k h2))))
   ·exact .inl (.inr (Jc a1 (rdm j k h2)))
  ·exact .inr (Jc (k2 j _ (by simpa using hoj) k h1) (rdm i k h2))
 ·have:=zlp hfw j o (by simpa using ho) e he hb;omega
 ·rw[k3];simp
 ·rw[k4];simp
theorem PSteps.q{ops:Array Oper}{o:Oper}{l:List Oper}{F F2:PFrame}{H H2:PHeap}{cs:List OC}{rts:List RT}(p:PV)(rd:List Nat)(hg:o.guard=none)(hd:jo n o)
  (h:∀F' H',(∀t∈o.looksAt ops,F' t=F t)->(∀k∈rd,H' k=H k)->PQ P W o F' H' p) (hs:PSteps P W n ops l (F.put o.dst p) H cs rts F2 H2):PSteps P W n ops (o::l) F H (⟨p,[]⟩::cs) (⟨rd,[]⟩::rts) F2 H2:=
 .cons (λF' H' hF hH=> .inl ⟨by unfold qb;rw[hg],wak hd (h F' H' hF λk hk=>hH k (.inl hk)) ⟨rfl,rfl⟩⟩) (λk hk=>by simp[ids]at hk) hs
theorem PSteps.w{ops:Array Oper}{o:Oper}{l:List Oper}{F F2:PFrame}{H H2:PHeap}{cs:List OC}{rts:List RT}(p:PV)(rd:List Nat)(id:Nat)(b:zcb)(hg:o.guard=none)
  (h:∀F' H',(∀t∈o.looksAt ops,F' t=F t)->(∀k,(k∈rd\/k=id)->H' k=H k)->PE P W n o F' H' (λq H2=>q=p/\H2=H'.set id b)) (hs:PSteps P W n ops l (F.put o.dst p) (H.set id b) cs rts F2 H2):PSteps P W n ops (o::l) F H (⟨p,[(id,b)]⟩::cs) (⟨rd,[id]⟩::rts) F2 H2:=
 .cons (λF' H' hF hH=> .inl ⟨by unfold qb;rw[hg],h F' H' hF λk hk=>hH k (hk.imp (λh=>h) λh=>by subst h;simp[ids])⟩) (λk hk=>by simp[ids]at hk;simp[hk]) hs
end
end Go.Proofs.YtdllbdlnmjngcaaGreat.T
namespace Go.Proofs.YtdllbdlnmjngcaaGreat
set_option maxRecDepth 100000
set_option maxHeartbeats 8000000
set_option linter.unusedVariables false
set_option linter.unusedSimpArgs false
open Go Go.RowKit L
structure GrV(gV:PV)(ps:List PrP):Prop where
 shape:∃ts bs rest wa,gV=.agg (.sl wa ts :: .sl 1 bs :: .sl 2 (ps.map prV)::rest)
 len:∃k,asz Tryz.prog 26=some (true,k)/\gV.cells.length=k
 ok:∀H,okC H gV=true
 np:NoP gV
 pn:∀p∈ps,NoP p.2/\(∀H,qh H p.2=true)/\p.2.cells=[p.2]
 pl:ps.length<=1000000
def zq7(gV:PV)(mf:PM):Prop:=∀H,PIn Tryz.prog 73 [gV] H (λq H'=>ownMR plv 3 1000 H' 10 q mf/\∀j,j<10->H' j=H j)
theorem GrV.fill{gV:PV}{ps:List PrP}(h:GrV gV ps){pr:Nat->List Int}{beh:PV}{mf:PM}(hall:PCall Tryz.prog 109 [gV] (· = beh))(hbn:NoP beh)
  (hpr:∀(i:Nat)(p:PrP),ps[i]?=some p->PCall Tryz.prog 110 [gV,beh,prV p] (· = slI (pr i))/\(pr i).length<=1000000) (hm:zex pr 0 (ps.map (·.1)) []=some mf):zq7 gV mf:=λH=>by
 obtain⟨ts,bs,rest,wa,e⟩:=h.shape;exact jfh H ts bs rest wa ps pr beh gV mf e h.len h.ok h.np hall hbn h.pn hpr h.pl hm
theorem z3n{gV:PV}{ps:List PrP}(h:GrV gV ps)(hr:PCall Tryz.prog 72 [gV] (· = B false)):PCall Tryz.prog 69 [gV] (· =.tup [.agg [I 0,I 0,I 0],I (-1)]):=by
 obtain⟨kg,hkg,hlen⟩:=h.len;obtain⟨ts,bs,rest,wa,hgV⟩:=h.shape;have hgc:PV.agg gV.cells=gV:=by rw[hgV];rfl
 refine waf Tryz.func69 rfl Tryz.ntmps69 (by simp) λW=>?_;refine PC.seq λK hK=>?_;refine PC.region ?_;refine wbg 1 (d:=1) rfl rfl rfl (by simp) (v:=gV) (by simp[go_sem]) (h.ok _) rfl λv1 H1 b1 o1=>?_;refine war 2 (d:=2) rfl rfl rfl (by simp) zzm rfl rfl λv2 H2 b2 o2=>?_
 repeat (first|(refine PC.seq λK hK=>?_)|(refine PC.region ?_)|(refine PL.k rfl λKK hKK=>?_;simp (disch:=omega) [go_sem,jj];refine hKK _ ?_;clear hKK KK)|(refine PL.done hK ?_;clear hK))
 refine wa2 (id:=1) (off:=0) (ver:=v1) (p:=gV) rfl rfl rfl (by simp) (by simp[go_sem]) (by rw[o2 1 (by decide)];exact b1) hkg (by rw[wgn,J8 hlen,hgc]) ?_;refine waj rfl rfl (by kernel_rfl) hr (by simp[go_sem]) (by simp[go_sem,h.np]) (by simp[go_sem,View.noP h.np]) ?_
 repeat (first|(refine PC.seq λK hK=>?_)|(refine PC.region ?_)|(refine PL.k rfl λKK hKK=>?_;simp (disch:=omega) [go_sem,jj];refine hKK _ ?_;clear hKK KK)|(refine PL.done hK ?_;clear hK)|(refine wah ?_ ?_;focus (simp[go_sem];done)))
 refine wao (id:=2) rfl rfl (by simp[jo]) (by simp[go_sem];rfl) b2 z3s (v :=.agg [I 0,I 0,I 0]) (ps:=[I 0,I 0,I 0]) (by simp[go_sem,I]) rfl rfl rfl (by simp) (cs':=[I 0,I 0,I 0]) rfl λH3 b3 o3=>?_
 repeat (first|(refine PL.k rfl λKK hKK=>?_;simp (disch:=omega) [go_sem,jj];refine hKK _ ?_;clear hKK KK)|(refine PL.done hK ?_;clear hK))
 exact PC.ret (fin (.inr rfl) (p0 :=.tup [.agg [I 0,I 0,I 0],I (-1)]) (by simp[Qi,z6,Tryz.results69,go_sem,yc,jl,b3,qw]) (.tup _ λc hc=>by simp at hc;rcases hc with rfl|rfl;exact .agg _ (λc hc=>by simp at hc;subst hc;exact .u _);exact .u _))
def zjz(mf:PM)(a:Int×Int):Option Int:=(kIx plq a (mf.map (·.1))).bind λj=>(mf[j]?).bind λe=>e.2[1]?
def zi8(mf:PM):Option ((Int×Int×Int)×Int):=match (jx mf).2 with
 |false=>some ((0,0,0), -1)
 |true=>(zjz mf (jx mf).1).map λz=>((15,(jx mf).1.1,(jx mf).1.2),z)
theorem zg9{P:Program}{H:PHeap}{F:PFrame}{o:Oper}{t e id m i ver:Nat}{x y:Operand}{cs:List PV}(ho:o.op=.indexAddr t x y)(he:esz P t=some 1)(hx:evP F x=.ps id ver)(hy:evP F y=.u (.int .i64 (i:Nat)))(hH:H id=⟨ver,some (.row e 1 m cs)⟩)(hlt:i<m):jr P H F o=some (.pp id i ver):=by
 unfold jr;rw[ho];simp only[hx,hy];unfold indexAddrP;simp[qm,hH,he,hlt]
theorem jbq{gV:PV}{ps:List PrP}{mf:PM}{r:(Int×Int×Int)×Int}(h:GrV gV ps)(hr:PCall Tryz.prog 72 [gV] (· = B true))(hf:zq7 gV mf)(hcl:zi8 mf=some r):PCall Tryz.prog 69 [gV] (· =.tup [.agg [I r.1.1,I r.1.2.1,I r.1.2.2],I r.2]):=by
 obtain⟨kg,hkg,hlen⟩:=h.len;obtain⟨ts,bs,rest,wa,hgV⟩:=h.shape;have hgc:PV.agg gV.cells=gV:=by rw[hgV];rfl
 have hnp:NoP (.tup [.agg [I r.1.1,I r.1.2.1,I r.1.2.2],I r.2]) :=.tup _ λc hc=>by
  simp at hc;rcases hc with rfl|rfl
  ·exact .agg _ λc hc=>by simp at hc;rcases hc with rfl|rfl|rfl<;>exact .u _
  ·exact .u _
 refine waf Tryz.func69 rfl Tryz.ntmps69 (by simp) λW=>?_;refine PC.seq λK hK=>?_;refine PC.region ?_;refine wbg 1 (d:=1) rfl rfl rfl (by simp) (v:=gV) (by simp[go_sem]) (h.ok _) rfl λv1 H1 b1 o1=>?_;refine war 2 (d:=2) rfl rfl rfl (by simp) zzm rfl rfl λv2 H2 b2 o2=>?_
 repeat (first|(refine PC.seq λK hK=>?_)|(refine PC.region ?_)|(refine PL.k rfl λKK hKK=>?_;simp (disch:=omega) [go_sem,jj];refine hKK _ ?_;clear hKK KK)|(refine PL.done hK ?_;clear hK))
 have b1:H2 1=⟨v1,some (.box 26 gV.cells)⟩:=by rw[o2 1 (by decide)];exact b1
 refine wa2 (id:=1) (off:=0) (ver:=v1) (p:=gV) rfl rfl rfl (by simp) (by simp[go_sem]) b1 hkg (by rw[wgn,J8 hlen,hgc]) ?_;refine waj rfl rfl (by kernel_rfl) hr (by simp[go_sem]) (by simp[go_sem,h.np]) (by simp[go_sem,View.noP h.np]) ?_
 repeat (first|(refine PC.seq λK hK=>?_)|(refine PC.region ?_)|(refine PL.k rfl λKK hKK=>?_;simp (disch:=omega) [go_sem,jj];refine hKK _ ?_;clear hKK KK)|(refine PL.done hK ?_;clear hK)|(refine PC.skip (hK _ _ ?_);clear hK)|(refine wag ?_ ?_;focus (simp[go_sem];done)))
 refine wa2 (id:=1) (off:=0) (ver:=v1) (p:=gV) rfl rfl rfl (by simp) (by simp[go_sem]) b1 hkg (by rw[wgn,J8 hlen,hgc]) ?_;refine PL.inl rfl rfl (hf H2) (by simp[jo]) (by simp[yr,go_sem]) λq H3⟨hq,o3⟩=>?_
 repeat (first|(refine PC.seq λK hK=>?_)|(refine PC.region ?_)|(refine PL.k rfl λKK hKK=>?_;simp (disch:=omega) [go_sem,jj];refine hKK _ ?_;clear hKK KK)|(refine PL.done hK ?_;clear hK))
 refine PL.inl rfl rfl (zru H3 q mf hq) (by simp[jo]) (by simp[yr,go_sem]) λc H4⟨hc,o4⟩=>?_;subst hc;have b2:H4 2=⟨v2,some (.box 36 [I 0,I 0,I 0])⟩:=by rw[o4 2 (.inl (by decide)),o3 2 (by decide)];exact b2
 have hq4:ownMR plv 3 1000 H4 10 q mf:=hq.mono (o4 10 (.inl (by decide))) λj hj=>o4 j (.inr hj);clear hq b1
 repeat (refine PL.k rfl λKK hKK=>?_;simp (disch:=omega) [go_sem,jj];refine hKK _ ?_;clear hKK KK)
 refine war 5 (d:=5) rfl rfl rfl (by simp) Yd rfl rfl λv5 H5 b5 o5=>?_;refine wao (id:=5) rfl rfl (by simp[jo]) (by simp[go_sem];rfl) b5 Y4 (v :=.agg [I (jx mf).1.1,I (jx mf).1.2]) (ps:=[I (jx mf).1.1,I (jx mf).1.2]) (by simp[go_sem]) rfl rfl rfl (by simp) (cs':=[I (jx mf).1.1,I (jx mf).1.2]) rfl λH6 b5 o6=>?_;have b2:H6 2=⟨v2,some (.box 36 [I 0,I 0,I 0])⟩:=by rw[o6 2 (by decide),o5 2 (by decide)];exact b2
 have hq6:ownMR plv 3 1000 H6 10 q mf:=hq4.mono (by rw[o6 10 (by decide),o5 10 (by decide)]) λj hj=>by rw[o6 j (by omega),o5 j (by omega)]
 clear hq4;unfold zi8 at hcl;cases hc2:(jx mf).2 with
 |false=>
  rw[hc2]at hcl;cases hcl
  repeat (first|(refine PC.seq λK hK=>?_)|(refine PC.region ?_)|(refine PL.k rfl λKK hKK=>?_;simp (disch:=omega) [go_sem,jj,hc2];refine hKK _ ?_;clear hKK KK)|(refine PL.done hK ?_;clear hK)|(refine wah ?_ ?_;focus (simp[go_sem,hc2];done)))
  refine wao (id:=2) rfl rfl (by simp[jo]) (by simp[go_sem];rfl) b2 z3s (v :=.agg [I 0,I 0,I 0]) (ps:=[I 0,I 0,I 0]) (by simp[go_sem,I]) rfl rfl rfl (by simp) (cs':=[I 0,I 0,I 0]) rfl λH7 b7 o7=>?_
  repeat (first|(refine PL.k rfl λKK hKK=>?_;simp (disch:=omega) [go_sem,jj];refine hKK _ ?_;clear hKK KK)|(refine PL.done hK ?_;clear hK))
  exact PC.ret (fin (.inr rfl) (by simp[Qi,z6,Tryz.results69,go_sem,yc,jl,b7,qw]) hnp)
 |true=>
  rw[hc2]at hcl;obtain⟨z,hz,rfl⟩:=wee.1 hcl;unfold zjz at hz;obtain⟨j,hj,hz⟩:=wgf.1 hz;obtain⟨e,he,hz⟩:=wgf.1 hz;obtain⟨ver,bs,clock,cs,rfl,hH,hbl,_,hcl,hrows⟩:=hq6;obtain⟨c,hc⟩:∃c,cs[j]?=some c:=⟨_,wd2 (by rw[hcl];exact(wd5.1 he).1)⟩
  have hrow:=hrows j c e hc he
  repeat (first|(refine PC.seq λK hK=>?_)|(refine PC.region ?_)|(refine PL.k rfl λKK hKK=>?_;simp (disch:=omega) [go_sem,jj,hc2];refine hKK _ ?_;clear hKK KK)|(refine PL.done hK ?_;clear hK)|(refine PC.skip (hK _ _ ?_);clear hK)|(refine wag ?_ ?_;focus (simp[go_sem,hc2];done)))
  have hrow:ownL 3 1 I H6 (j+1000) c e.2:=by rw[wf9];exact hrow
  obtain⟨vr,hcv,hrowH⟩:=wbp hrow (by have:=(wd5.1 hz).1;omega);have hfl:(e.2.map I).flatMap PV.cells=e.2.map I:=zaq (λ_=>rfl) e.2;rw[hfl]at hrowH;have hH10:=hH;subst hcv;refine A3 2 (show _=PV.pp 2 0 v2 by simp[go_sem]) 4 (show _=PV.ps 10 ver by simp[go_sem]) 5 (show _=PV.pp 5 0 v5 by simp[go_sem]) λF f2 f4 f5=>?_;refine PC.mono (T.PSteps.drawn mixed (
   T.PSteps.q (.pp 5 0 v5) [5] rfl (by simp[jo]) (λF' H' hF hH=>by have g5:F' 5=.pp 5 0 v5:=(hF 5 (by simp[Oper.looksAt,Op.operands])).trans (by simp[go_sem,f2,f4,f5]);have k5:H' 5=⟨v5,some (.box 113 [I (jx mf).1.1,I (jx mf).1.2])⟩:=(hH 5 (by simp)).trans b5;exact jh (by simp[go_sem,jr,g5,k5])) <|
   T.PSteps.q (I (jx mf).1.1) [5] rfl (by simp[jo]) (λF' H' hF hH=>by have g21:F' 21=.pp 5 0 v5:=(hF 21 (by simp[Oper.looksAt,Op.operands])).trans (by simp[go_sem,f2,f4,f5]);have k5:H' 5=⟨v5,some (.box 113 [I (jx mf).1.1,I (jx mf).1.2])⟩:=(hH 5 (by simp)).trans b5;exact jh (by simp[go_sem,jr,g21,k5])) <|
   T.PSteps.q (.pp 5 1 v5) [5] rfl (by simp[jo]) (λF' H' hF hH=>by have g5:F' 5=.pp 5 0 v5:=(hF 5 (by simp[Oper.looksAt,Op.operands])).trans (by simp[go_sem,f2,f4,f5]);have k5:H' 5=⟨v5,some (.box 113 [I (jx mf).1.1,I (jx mf).1.2])⟩:=(hH 5 (by simp)).trans b5;exact jh (by simp[go_sem,jr,g5,k5])) <|
   T.PSteps.q (I (jx mf).1.2) [5] rfl (by simp[jo]) (λF' H' hF hH=>by have g23:F' 23=.pp 5 1 v5:=(hF 23 (by simp[Oper.looksAt,Op.operands])).trans (by simp[go_sem,f2,f4,f5]);have k5:H' 5=⟨v5,some (.box 113 [I (jx mf).1.1,I (jx mf).1.2])⟩:=(hH 5 (by simp)).trans b5;exact jh (by simp[go_sem,jr,g23,k5])) <|
   T.PSteps.q (.agg [I 15,I (jx mf).1.1,I (jx mf).1.2]) [] rfl (by simp[jo]) (λF' H' hF hH=>by have g22:F' 22=I (jx mf).1.1:=(hF 22 (by simp[Oper.looksAt,Op.operands])).trans (by simp[go_sem,f2,f4,f5]);have g24:F' 24=I (jx mf).1.2:=(hF 24 (by simp[Oper.looksAt,Op.operands])).trans (by simp[go_sem,f2,f4,f5]);exact jh (by simp[go_sem,jr,g22,g24,I])) <|
   T.PSteps.q (.ps 10 ver) [] rfl (by simp[jo]) (λF' H' hF hH=>by have g4:F' 4=.ps 10 ver:=(hF 4 (by simp[Oper.looksAt,Op.operands])).trans (by simp[go_sem,f2,f4,f5]);exact jh (by simp[go_sem,jr,g4])) <|
   T.PSteps.q (.agg [I (jx mf).1.1,I (jx mf).1.2]) [5] rfl (by simp[jo]) (λF' H' hF hH=>by have g5:F' 5=.pp 5 0 v5:=(hF 5 (by simp[Oper.looksAt,Op.operands])).trans (by simp[go_sem,f2,f4,f5]);have k5:H' 5=⟨v5,some (.box 113 [I (jx mf).1.1,I (jx mf).1.2])⟩:=(hH 5 (by simp)).trans b5;exact jh (by simp[go_sem,jr,g5,k5])) <|
   T.PSteps.q (.ps (j+1000) vr) [10] rfl (by simp[jo]) (λF' H' hF hH=>by have g26:F' 26=.ps 10 ver:=(hF 26 (by simp[Oper.looksAt,Op.operands])).trans (by simp[go_sem,f2,f4,f5]);have g27:F' 27=.agg [I (jx mf).1.1,I (jx mf).1.2]:=(hF 27 (by simp[Oper.looksAt,Op.operands])).trans (by simp[go_sem,f2,f4,f5]);exact wdb (id:=10) (key:=113) (elem:=31) z9b rfl (by kernel_rfl) ((hH 10 (by simp)).trans hH10) (by simp only[evP];exact g26) (by simp only[evP];exact g27) rfl hj hc) <|
   T.PSteps.q (.pp (j+1000) 1 vr) [j+1000] rfl (by simp[jo]) (λF' H' hF hH=>by have g28:F' 28=.ps (j+1000) vr:=(hF 28 (by simp[Oper.looksAt,Op.operands])).trans (by simp[go_sem,f2,f4,f5]);exact jh (zg9 (i:=1) rfl zch (by simp only[evP];exact g28) rfl ((hH (j+1000) (by simp)).trans hrowH) (wd5.1 hz).1)) <|
   T.PSteps.q (I z) [j+1000] rfl (by simp[jo]) (λF' H' hF hH=>by have g29:F' 29=.pp (j+1000) 1 vr:=(hF 29 (by simp[Oper.looksAt,Op.operands])).trans (by simp[go_sem,f2,f4,f5]);have kr:H' (j+1000)=⟨vr,some (.row 3 1 e.2.length (e.2.map I))⟩:=(hH (j+1000) (by simp)).trans hrowH;have hz':(e.2.map I)[1]?=some (I z):=((by rw[web,hz];rfl));exact jh (by simp[go_sem,jr,g29,yc,jl,kr,qw,hz'])) <|
   T.PSteps.w (.u undef) [2] 2 ⟨v2,some (.box 36 [I 15,I (jx mf).1.1,I (jx mf).1.2])⟩ rfl (λF' H' hF hH=>by have g2:F' 2=.pp 2 0 v2:=(hF 2 (by simp[Oper.looksAt,Op.operands])).trans (by simp[go_sem,f2]);have g25:F' 25=.agg [I 15,I (jx mf).1.1,I (jx mf).1.2]:=(hF 25 (by simp[Oper.looksAt,Op.operands])).trans (by simp[go_sem]);have k2:H' 2=⟨v2,some (.box 36 [I 0,I 0,I 0])⟩:=(hH 2 (.inr rfl)).trans b2;exact PE.store (id:=2) (off:=0) (ver:=v2) rfl (by simp[jo]) (by simp only[evP];exact g2) (cs:=[I 0,I 0,I 0]) (by simp[jl,k2]) z3s (by simp only[evP];rw[g25];rfl) (by simp only[evP];rw[g25];rfl) (by simp) (bd :=.box 36 [I 0,I 0,I 0]) (by rw[k2]) ⟨rfl,by simp only[evP];rw[g25];rfl⟩) <|
   T.PSteps.q (I z) [] rfl (by simp[jo]) (λF' H' hF hH=>by have g30:F' 30=I z:=(hF 30 (by simp[Oper.looksAt,Op.operands])).trans (by simp[go_sem,f2,f4,f5]);exact jh (by simp[go_sem,jr,g30])) <|
   T.PSteps.nil) (by kernel_rfl)) λex F' H'⟨h1,h2,h3⟩=>?_
  subst h1;subst h2;subst h3;refine hK _ _ ?_;exact PC.ret (fin (.inr rfl) (by simp[Qi,z6,Tryz.results69,go_sem,f2,yc,jl,PHeap.set,qw]) hnp)
abbrev PE2:=(Int×Int)×List Int
def zo3(ll:List (List Int))(e:PE2):List (List Int):=ll.set e.1.1.toNat ((ll.getD e.1.1.toNat []).set e.1.2.toNat (e.2.headD 0))
def zyj(n w:Nat):List (List Int):=List.replicate n (List.replicate w (-1))
def jej(n w:Nat)(m:PM):List (List Int):=m.foldl zo3 (zyj n w)
def z4c(n w:Nat)(e:PE2):Prop:=0<=e.1.1/\e.1.1<n/\0<=e.1.2/\e.1.2<w/\e.2≠[]
structure Tab(n w:Nat)(S:PE2->Prop)(ll:List (List Int)):Prop where
 n:ll.length=n
 w:∀(r:Nat)(row:List Int),ll[r]?=some row->row.length=w
 c:∀(r t:Nat)(row:List Int)(z:Int),ll[r]?=some row->row[t]?=some z->(∃e,S e/\e.1=((r:Int),(t:Int))/\z=e.2.headD 0)\/((∀e,S e->e.1≠((r:Int),(t:Int)))/\z=-1)
theorem z5k{n w r:Nat}{row:List Int}(h:(zyj n w)[r]?=some row):row=List.replicate w (-1):=by
 unfold zyj at h;rw[wfw]at h;split at h<;>cases h;rfl
theorem Tab.start(n w:Nat):Tab n w (λ_=>False) (zyj n w):=by
 refine⟨by simp[zyj],λr row h=>by rw[z5k h];simp,λr t row z h1 h2=>?_⟩;rw[z5k h1,wfw]at h2;split at h2<;>cases h2;exact .inr ⟨λe h=>h.elim,rfl⟩
theorem Tab.step{n w:Nat}{S:PE2->Prop}{ll:List (List Int)}(h:Tab n w S ll){e:PE2}(he:z4c n w e):Tab n w (λx=>S x\/x=e) (zo3 ll e):=by
 obtain⟨h1,h2,h3,h4,_⟩:=he;have hr:e.1.1.toNat<ll.length:=by rw[h.n];omega
 have hg:ll.getD e.1.1.toNat []=ll[e.1.1.toNat]:=by simp[List.getD,hr]
 have hrl:(ll[e.1.1.toNat]).length=w:=h.w _ _ (wd2 hr);unfold zo3;rw[hg];refine⟨by simpa using h.n,λr row hrow=>?_,λr t row z hrow hz=>?_⟩
 ·rw[wev]at hrow;split at hrow
  ·(first|(split at hrow<;>cases hrow)|cases hrow)
   rw[wfz,hrl]
  ·exact h.w r row hrow
 ·rw[wev]at hrow;split at hrow
  ·rename_i er
   (first|(split at hrow<;>cases hrow)|cases hrow)
   rw[wev]at hz;split at hz
   ·rename_i et
    (first|(split at hz<;>cases hz)|cases hz)
    refine .inl ⟨e,.inr rfl,?_,rfl⟩;have e1:e.1.1=(r:Int):=by omega
    have e2:e.1.2=(t:Int):=by omega
    rw[<- e1,<- e2]
   ·rename_i et;have hne:e.1≠((r:Int),(t:Int)):=λh=>et (by rw[h];simp);rcases h.c r t _ z (by rw[<- er];exact wd2 hr) hz with⟨e',h5,h6,h7⟩|⟨h5,h6⟩
    ·exact .inl ⟨e',.inl h5,h6,h7⟩
    ·exact .inr ⟨λx hx=>by rcases hx with hx|rfl;exact h5 x hx;exact hne,h6⟩
  ·rename_i er;have hne:e.1≠((r:Int),(t:Int)):=λh=>er (by rw[h];simp);rcases h.c r t row z hrow hz with⟨e',h5,h6,h7⟩|⟨h5,h6⟩
   ·exact .inl ⟨e',.inl h5,h6,h7⟩
   ·exact .inr ⟨λx hx=>by rcases hx with hx|rfl;exact h5 x hx;exact hne,h6⟩
theorem Tab.uniq{n w:Nat}{S:PE2->Prop}{a b:List (List Int)}(hS:∀e e',S e->S e'->e.1=e'.1->e=e')(ha:Tab n w S a)(hb:Tab n w S b):a=b:=by
 apply whb (by rw[ha.n,hb.n]);intro r h1 h2;have ea:=wd2 h1;have eb:=wd2 h2;apply whb (by rw[ha.w _ _ ea,hb.w _ _ eb]);intro t h3 h4;have ta:=wd2 h3;have tb:=wd2 h4;rcases ha.c r t _ _ ea ta with⟨e,h5,h6,h7⟩|⟨h5,h6⟩
 ·rcases hb.c r t _ _ eb tb with⟨e',g5,g6,g7⟩|⟨g5,g6⟩
  ·rw[h7,g7,hS e e' h5 g5 (h6.trans g6.symm)]
  ·exact absurd h6 (g5 e h5)
 ·rcases hb.c r t _ _ eb tb with⟨e',g5,g6,g7⟩|⟨g5,g6⟩
  ·exact absurd g6 (h5 e' g5)
  ·rw[h6,g6]
theorem z62{n w:Nat}{m:PM}(hk:∀e∈m,z4c n w e):Tab n w (λe=>e∈m) (jej n w m):=by
 suffices ∀(l:PM)(S:PE2->Prop)(ll:List (List Int)),(∀e∈l,z4c n w e)->Tab n w S ll->Tab n w (λe=>S e\/e∈l) (l.foldl zo3 ll) by
  have h:=this m (λ_=>False) (zyj n w) hk (Tab.start n w);have e:(λe=>False\/e∈m)=λe=>e∈m:=by funext e;simp
  rw[e]at h;exact h
 intro l;induction l with
 |nil=>
  intro S ll _ h;have e:(λe=>S e\/e∈([]:PM))=S:=by funext e;simp
  rw[e];exact h
 |cons x l ih=>
  intro S ll hk h;have:=ih _ _ (λe he=>hk e (by simp[he])) (h.step (hk x (by simp)));have e:(λe=>S e\/e∈x::l)=λe=>(S e\/e=x)\/e∈l:=by funext e;simp[or_assoc]
  rw[e];exact this
section
variable{H:PHeap}{et e base id:Nat}{q:PV}{ll:List (List Int)}
theorem ownLL.row{z:Nat}{v:List Int}(h:ownLL et e base I H id q ll)(hv:ll[z]?=some v)(hne:v≠[]):∃cs ver vr,q=.ps id ver/\H id=⟨ver,some (.row et 1 ll.length cs)⟩/\innerL e base I H cs ll/\cs[z]?=some (.ps (base+z) vr)/\H (base+z)=⟨vr,some (.row e 1 v.length (v.map I))⟩:=by
 obtain⟨cs,ver,hi,hq,hH⟩:=h;have hz:=(wd5.1 hv).1;obtain⟨c,hc⟩:∃c,cs[z]?=some c:=⟨_,wd2 (by rw[hi.1];exact hz)⟩
 obtain⟨vr,rfl,hr⟩:=wbp (hi.2 z c v hc hv) (λh=>hne (wek h));rw[zaq (λ_=>rfl)]at hr;exact⟨cs,ver,vr,hq,hH,hi,hc,hr⟩
theorem ownLL.put{H':PHeap}{z ver vr:Nat}{v zs:List Int}{cs:List PV}(hlt:id<base)(hH:H id=⟨ver,some (.row et 1 ll.length cs)⟩)(hi:innerL e base I H cs ll)(hv:ll[z]?=some v)(hc:cs[z]?=some (.ps (base+z) vr))
  (hl:zs.length=v.length) (h1:H' (base+z)=⟨vr,some (.row e 1 zs.length (zs.map I))⟩) (h2:∀j,j≠base+z->H' j=H j):ownLL et e base I H' id (.ps id ver) (ll.set z zs):=by
 have hz:=(wd5.1 hv).1;refine⟨cs,ver,⟨by simpa using hi.1,λj c l h3 h4=>?_⟩,rfl,by rw[h2 _ (by omega),wfz];exact hH⟩;rw[wev]at h4;by_cases hj:z=j
 ·subst hj;rw[if_pos rfl,if_pos hz]at h4;cases h4;rw[hc]at h3;cases h3;refine OwnS.row (by rw[zaq (λ_=>rfl)];exact h1) (by rw[zaq (λ_=>rfl)];simp)
 ·rw[if_neg hj]at h4;exact(hi.2 j c l h3 h4).mono (h2 _ (by omega))
end
theorem jb0{α:Type}(a b:α){i w:Nat}(h:i<w):(List.replicate i a++List.replicate (w-i) b).set i a=List.replicate (i+1) a++List.replicate (w-(i+1)) b:=by
 have e:List.replicate (w-i) b=b::List.replicate (w-(i+1)) b:=by rw[show w-i=(w-(i+1))+1 by omega];rfl
 rw[e,List.set_append_right _ _ (by simp),wd6,wg2,List.replicate_succ'];simp
def zey(n w k:Nat):List (List Int):=List.replicate k (List.replicate w (-1))++List.replicate (n-k) []
section
variable{P:Program}{W:Env}{n:Nat}{H:PHeap}{F:PFrame}{ops:Array Oper}{o:Oper}{l:List Oper}{K:PFrame → PHeap → Prop}
theorem wdz{t:TypeId}{x:Operand}{d id ver off k:Nat}{ag:Bool}{cs:List PV}{p:PV}(hg:o.guard=none)(ho:o.op=.load t x)(hd:o.dst=some d)(hdn:d<n)(hx:evP F x=.pp id off ver)(hl:jl H id ver=some cs)(ht:asz P t=some (ag,k))(hp:qw ag k (cs.drop off)=some p)
  (h:PL P W n ops l (F.put (some d) p) H K):PL P W n ops (o::l) F H K:=by
 refine waz hg (wak (λt ht=>by rw[hd]at ht;cases ht;exact hdn) (jh ?_) (by rw[hd];exact h));unfold jr;rw[ho];simp only[hx];unfold yc;simp[ht,hl,hp]
theorem wcm{t e id m i ver d:Nat}{x y:Operand}{cs:List PV}(hg:o.guard=none)(ho:o.op=.indexAddr t x y)(hd:o.dst=some d)(hdn:d<n)(he:esz P t=some 1)(hx:evP F x=.ps id ver)(hy:evP F y=.u (.int .i64 (i:Nat)))(hH:H id=⟨ver,some (.row e 1 m cs)⟩)(hlt:i<m)
  (h:PL P W n ops l (F.put (some d) (.pp id i ver)) H K):PL P W n ops (o::l) F H K:=
 waz hg (wak (λt ht=>by rw[hd]at ht;cases ht;exact hdn) (jh (zg9 ho he hx hy hH hlt)) (by rw[hd];exact h))
theorem wdc{t e id i ver:Nat}{x y:Operand}{xs:List Int}{z:Int}(hg:o.guard=none)(ho:o.op=.store t x y)(hd:o.dst=none)(ht:asz P t=some (false,1))(hx:evP F x=.pp id i ver)(hy:evP F y=I z)(hH:H id=⟨ver,some (.row e 1 xs.length (xs.map I))⟩)(hlt:i<xs.length)
  (h:∀H',H' id=⟨ver,some (.row e 1 (xs.set i z).length ((xs.set i z).map I))⟩->(∀j,j≠id->H' j=H j)->PL P W n ops l (F.put none (.u undef)) H' K):PL P W n ops (o::l) F H K:=by
 refine wa5 (v:=I z) (ps:=[I z]) (cs':=(xs.set i z).map I) hg ho (λt ht=>by rw[hd]at ht;cases ht) hx hH ht hy rfl rfl rfl (by simp;omega) ?_ λH' b1 o1=>?_
 ·apply wfj;intro j;have:=za (xs.map I) [I z] i (by simp;omega) j;rw[this,List.map_set,wev];by_cases e:i=j
  ·subst e;simp[hlt]
  ·have h3:¬(i<=j/\j<i+[I z].length):=by simp;omega
   rw[if_neg h3,if_neg e]
 ·rw[hd];exact h H' (by rw[wfz];exact b1) o1
end
theorem z8e{gV:PV}{ps:List PrP}{mf:PM}{ts bs rest:List PV}{wa:Nat}(h:GrV gV ps)(hgV:gV=.agg (.sl wa ts :: .sl 1 bs :: .sl 2 (ps.map prV)::rest))(hr:PCall Tryz.prog 72 [gV] (· = B true))(hf:zq7 gV mf)(hnc:(jx mf).2=false)
  (hbs:bs.length<=1000000) (hts:ts.length<=1000000) (hk:∀e∈mf,z4c bs.length (ts.length+1) e) (hu:∀e e',e∈mf->e'∈mf->e.1=e'.1->e=e') :
  PCall Tryz.prog 26 [gV] (· =.tup [zmv (jej bs.length (ts.length+1) mf),I 0]):=by
 obtain⟨kg,hkg,hlen⟩:=h.len;have hgc:PV.agg gV.cells=gV:=by rw[hgV];rfl
 have hcs:gV.cells=.sl wa ts :: .sl 1 bs :: .sl 2 (ps.map prV)::rest:=by rw[hgV];rfl
 refine waf Tryz.func26 rfl Tryz.ntmps26 (by simp) λW=>?_;refine PC.seq λK hK=>?_;refine PC.region ?_;refine wbg 1 (d:=1) rfl rfl rfl (by simp) (v:=gV) (by simp[go_sem]) (h.ok _) rfl λv1 H1 b1 o1=>?_
 repeat (first|(refine PC.seq λK hK=>?_)|(refine PC.region ?_)|(refine PL.k rfl λKK hKK=>?_;simp (disch:=omega) [go_sem,jj];refine hKK _ ?_;clear hKK KK)|(refine PL.done hK ?_;clear hK))
 refine wa2 (id:=1) (off:=0) (ver:=v1) (p:=gV) rfl rfl rfl (by simp) (by simp[go_sem]) b1 hkg (by rw[wgn,J8 hlen,hgc]) ?_;refine waj rfl rfl (by kernel_rfl) hr (by simp[go_sem]) (by simp[go_sem,h.np]) (by simp[go_sem,View.noP h.np]) ?_
 repeat (first|(refine PC.seq λK hK=>?_)|(refine PC.region ?_)|(refine PL.k rfl λKK hKK=>?_;simp (disch:=omega) [go_sem,jj];refine hKK _ ?_;clear hKK KK)|(refine PL.done hK ?_;clear hK)|(refine PC.skip (hK _ _ ?_);clear hK)|(refine wag ?_ ?_;focus (simp[go_sem];done)))
 refine wa2 (id:=1) (off:=0) (ver:=v1) (p:=gV) rfl rfl rfl (by simp) (by simp[go_sem]) b1 hkg (by rw[wgn,J8 hlen,hgc]) ?_;refine PL.inl rfl rfl (hf H1) (by simp[jo]) (by simp[yr,go_sem]) λq H3⟨hq,o3⟩=>?_
 repeat (first|(refine PC.seq λK hK=>?_)|(refine PC.region ?_)|(refine PL.k rfl λKK hKK=>?_;simp (disch:=omega) [go_sem,jj];refine hKK _ ?_;clear hKK KK)|(refine PL.done hK ?_;clear hK))
 refine PL.inl rfl rfl (zru H3 q mf hq) (by simp[jo]) (by simp[yr,go_sem]) λc H4⟨hc,o4⟩=>?_;subst hc;have b1:H4 1=⟨v1,some (.box 26 gV.cells)⟩:=by rw[o4 1 (.inl (by decide)),o3 1 (by decide)];exact b1
 have hq4:ownMR plv 3 1000 H4 10 q mf:=hq.mono (o4 10 (.inl (by decide))) λj hj=>o4 j (.inr hj);clear hq
 repeat (refine PL.k rfl λKK hKK=>?_;simp (disch:=omega) [go_sem,jj];refine hKK _ ?_;clear hKK KK)
 refine war 5 (d:=5) rfl rfl rfl (by simp) Yd rfl rfl λv5 H5 b5 o5=>?_;refine wao (id:=5) rfl rfl (by simp[jo]) (by simp[go_sem];rfl) b5 Y4 (v :=.agg [I (jx mf).1.1,I (jx mf).1.2]) (ps:=[I (jx mf).1.1,I (jx mf).1.2]) (by simp[go_sem]) rfl rfl rfl (by simp) (cs':=[I (jx mf).1.1,I (jx mf).1.2]) rfl λH6 b5 o6=>?_;have b1:H6 1=⟨v1,some (.box 26 (.sl wa ts :: .sl 1 bs :: .sl 2 (ps.map prV)::rest))⟩:=by rw[o6 1 (by decide),o5 1 (by decide),<- hcs];exact b1
 have hq6:ownMR plv 3 1000 H6 10 q mf:=hq4.mono (by rw[o6 10 (by decide),o5 10 (by decide)]) λj hj=>by rw[o6 j (by omega),o5 j (by omega)]
 clear hq4
 repeat (first|(refine PC.seq λK hK=>?_)|(refine PC.region ?_)|(refine PL.k rfl λKK hKK=>?_;simp (disch:=omega) [go_sem,jj,hnc,b1];refine hKK _ ?_;clear hKK KK)|(refine PL.done hK ?_;clear hK)|(refine PC.skip (hK _ _ ?_);clear hK)|(refine wag ?_ ?_;focus (simp[go_sem,hnc,b1];done)))
 obtain⟨ll0,hll0⟩:∃ll0,ll0=List.replicate bs.length ([]:List Int):=⟨_,rfl⟩
 have hmk:mkS 24 ([]:List Int) (bs.length:Int)=some ll0:=by
  unfold mkS;rw[if_pos ⟨by omega,by simp only[wem];omega,by simp only[wem,maxLen];omega⟩,hll0];simp
 refine wde (k :=.i64) (rep:=I) 14 (mf.length+1000) (by omega) rfl rfl rfl (by simp) (et:=31) (e:=3) zzj (by simp[go_sem]) hmk λqo H7 ho o7=>?_;have b1:H7 1=⟨v1,some (.box 26 (.sl wa ts :: .sl 1 bs :: .sl 2 (ps.map prV)::rest))⟩:=by rw[o7 1 (by decide)];exact b1
 have hq7:ownMR plv 3 1000 H7 10 q mf:=by
  obtain⟨ver,bs',clock,cs,e1,e2,e3,e0,e4,e5⟩:=hq6;exact⟨ver,bs',clock,cs,e1,(o7 10 (by decide)).trans e2,e3,e0,e4,λj c x h3 h4=>(e5 j c x h3 h4).mono (o7 _ (by omega))⟩
 clear hq6;obtain⟨cs0,vo,hi0,rfl,hHo⟩:=ho;have hl0:ll0.length=bs.length:=by rw[hll0];simp
 have ho:ownLL 31 3 (mf.length+1000) I H7 14 (.ps 14 vo) (zey bs.length (ts.length+1) 0):=⟨cs0,vo,by
  have:zey bs.length (ts.length+1) 0=ll0:=by rw[hll0];simp[zey]
  rw[this];exact hi0,rfl,by rw[hHo,hl0];simp[zey]⟩
 rw[hl0]at hHo
 repeat (first|(refine PC.seq λK hK=>?_)|(refine PC.block ?_)|(refine PC.region ?_)|(refine PL.k rfl λKK hKK=>?_;simp (disch:=omega) [go_sem,jj,hHo];refine hKK _ ?_;clear hKK KK)|(refine PL.k rfl λKK hKK=>?_;simp[go_sem,jj,hHo];refine hKK _ ?_;clear hKK KK)|(refine PL.done hK ?_;clear hK))
 obtain⟨N,hN⟩:∃N,N=bs.length:=⟨_,rfl⟩
 obtain⟨w,hw⟩:∃w,w=ts.length+1:=⟨_,rfl⟩
 rw[<- hN]at hk hbs ho⊢;rw[<- hw]at hk ho⊢;have hkl:∀k,(zey N w k).length=k+(N-k):=λk=>by simp[zey]
 refine PC.loop (λf F H'=>∃k,k<=N/\f=N-k/\F 1=.pp 1 0 v1/\H' 1=⟨v1,some (.box 26 (.sl wa ts :: .sl 1 bs :: .sl 2 (ps.map prV)::rest))⟩/\F 4=q/\ownMR plv 3 1000 H' 10 q mf/\F 7=.ps 14 vo/\ownLL 31 3 (mf.length+1000) I H' 14 (.ps 14 vo) (zey N w k)/\F 28=I N/\F 29=I k) (m:=N)
  ⟨0,by omega,by omega,by simp[go_sem],b1,by simp[go_sem],hq7,by simp[go_sem],ho,by simp[go_sem,hN],by simp[go_sem]⟩ λf F H8 hI=>?_
 clear b1 hq7 ho hHo hi0;obtain⟨k,hkN,rfl,f1,b1,f4,hq7,f7,ho,f28,f29⟩:=hI;by_cases hlt:k<N
 ·have hlt':(k:Int)<N:=by omega
  have htk:(zey N w k)[k]?=some []:=by
   unfold zey;rw[wei (by simp),wd6,wg2,wfw,if_pos (by omega)]
  obtain⟨cs1,vo1,hi1,hvo1,hHo1⟩:=ho;cases hvo1;have hcl1:cs1.length=N:=by rw[hi1.1,hkl];omega
  obtain⟨c1,hc1⟩:∃c,cs1[k]?=some c:=⟨_,wd2 (by omega)⟩
  have htsN:(ts.length:Int)<=1000000:=by omega
  repeat (first|(refine PC.seq λK hK=>?_)|(refine PC.block ?_)|(refine PC.region ?_)|(refine PL.k rfl λKK hKK=>?_;simp (disch:=omega) [go_sem,jj,f28,f29,hlt',f7,f1,b1,htsN];refine hKK _ ?_;clear hKK KK)|(refine PL.done hK ?_;clear hK)|(refine PC.skip (hK _ _ ?_);clear hK)|(refine wah ?_ ?_;focus (simp[go_sem,f28,f29,hlt',f7,f1,b1,htsN];done)))
  refine wa4 (kx :=.i64) (ky :=.i64) (m:=w) (mf.length+1000+k) rfl rfl rfl (by simp) zz rfl (by simp[go_sem,hw]) (by simp[go_sem,hw]) (by simp only[maxLen];omega) (by omega) λvr H9 b9 o9=>?_;have hHo9:H9 14=⟨vo,some (.row 31 1 (zey N w k).length cs1)⟩:=by rw[o9 14 (by omega)];exact hHo1
  refine waz rfl (wak (by simp[jo]) (jh (zg9 (id:=14) (i:=k) (ver:=vo) rfl zge (by simp[go_sem]) (by simp[go_sem]) hHo9 (by rw[hkl];omega))) ?_);refine wdd (rep:=I) (et:=31) (e:=3) (base:=mf.length+1000) (id:=14) (q :=.ps 14 vo) (ll:=zey N w k) (H0:=H8) (z:=(k:Int)) (v:=[]) (zs:=List.replicate w 0) (p:=c1) (pq :=.ps (mf.length+1000+k) vr) (by omega) rfl rfl rfl zeo ⟨cs1,vo,hi1,rfl,hHo1,hc1⟩ (λj hj=>o9 j hj) (OwnS.row (by rw[wem,b9,zaq (λ_=>rfl)];simp[I]) (by rw[zaq (λ_=>rfl)];simp)) (by simp[idx,htk]) (by simp[go_sem]) (by simp[go_sem];rfl) λH10 ho10 o10=>?_;rw[wem]at ho10;have b1:H10 1=⟨v1,some (.box 26 (.sl wa ts :: .sl 1 bs :: .sl 2 (ps.map prV)::rest))⟩:=by rw[o10 1 (by omega) (by omega)];exact b1
  have hq10:ownMR plv 3 1000 H10 10 q mf:=by
   obtain⟨ver,bs',clock,cs,e1,e2,e3,e0,e4,e5⟩:=hq7;exact⟨ver,bs',clock,cs,e1,(o10 10 (by omega) (by omega)).trans e2,e3,e0,e4,λj c x h3 h4=>(e5 j c x h3 h4).mono (o10 _ (by omega) (by have:=(wd5.1 h4).1;omega))⟩
  clear hq7;have hwp:0<w:=by omega
  have hget:∀(row:List Int),((zey N w k).set k row)[k]?=some row:=λrow=>by rw[wev];simp[hkl];omega
  have hll:∀(row:List Int),((zey N w k).set k row).length=N:=λrow=>by rw[wfz,hkl];omega
  obtain⟨cs2,vo2,vr2,hv2,hH2,hi2,hc2,hr2⟩:=ownLL.row ho10 (hget _) (λe=>by have:=congrArg List.length e;simp at this;omega);cases hv2;rw[hll]at hH2;rw[wd6]at hr2
  repeat (first|(refine PC.seq λK hK=>?_)|(refine PC.region ?_)|(refine PL.k rfl λKK hKK=>?_;simp (disch:=omega) [go_sem,jj,f7];refine hKK _ ?_;clear hKK KK)|(refine PL.done hK ?_;clear hK))
  refine wcm (id:=14) (i:=k) (ver:=vo) rfl rfl rfl (by simp) zge (by simp[go_sem,f7]) (by simp[go_sem]) hH2 hlt ?_;refine wdz (id:=14) (off:=k) (ver:=vo) (p :=.ps (mf.length+1000+k) vr2) rfl rfl rfl (by simp) (by simp[go_sem]) (cs:=cs2) (by simp[jl,hH2]) zeo (by simp[qw,hc2]) ?_;refine wcf rfl rfl rfl (by simp) (by kernel_rfl) (q :=.ps (mf.length+1000+k) vr2) (by simp[go_sem]) (OwnS.row hr2 (by simp)) ?_
  repeat (first|(refine PC.block ?_)|(refine PL.k rfl λKK hKK=>?_;simp (disch:=omega) [go_sem,jj];refine hKK _ ?_;clear hKK KK)|(refine PL.done hK ?_;clear hK))
  refine PC.loop (λf F H'=>∃i,i<=w/\f=w-i/\F 1=.pp 1 0 v1/\H' 1=⟨v1,some (.box 26 (.sl wa ts :: .sl 1 bs :: .sl 2 (ps.map prV)::rest))⟩/\F 4=q/\ownMR plv 3 1000 H' 10 q mf/\F 7=.ps 14 vo/\ownLL 31 3 (mf.length+1000) I H' 14 (.ps 14 vo) ((zey N w k).set k (List.replicate i (-1)++List.replicate (w-i) 0))/\F 28=I N/\F 29=I k/\F 8=I k/\F 44=I w/\F 45=I i) (m:=w)
   ⟨0,by omega,by omega,by simp[go_sem,f1],b1,by simp[go_sem,f4],hq10,by simp[go_sem,f7],by simpa using ho10,by simp[go_sem,f28],by simp[go_sem,f29],by simp[go_sem],by simp[go_sem],by simp[go_sem]⟩ λf F H11 hI=>?_
  clear b1 hq10 ho10 hH2 hi2 hc2 hr2 f1 f4 f7 f28 f29;obtain⟨i,hiw,rfl,f1,b1,f4,hq11,f7,ho11,f28,f29,f8,f44,f45⟩:=hI;by_cases hil:i<w
  ·have hil':(i:Int)<w:=by omega
   obtain⟨cs2,vo2,vr2,hv2,hH2,hi2,hc2,hr2⟩:=ownLL.row ho11 (hget _) (λe=>by have:=congrArg List.length e;simp at this;omega);cases hv2;have hrl:(List.replicate i (-1:Int)++List.replicate (w-i) 0).length=w:=by simp;omega
   have hH2':H11 14=⟨vo,some (.row 31 1 N cs2)⟩:=by rw[hH2,hll]
   repeat (first|(refine PC.seq λK hK=>?_)|(refine PC.block ?_)|(refine PC.region ?_)|(refine PL.k rfl λKK hKK=>?_;simp (disch:=omega) [go_sem,jj,f44,f45,hil',f7,f8];refine hKK _ ?_;clear hKK KK)|(refine PL.done hK ?_;clear hK)|(refine PC.skip (hK _ _ ?_);clear hK)|(refine wah ?_ ?_;focus (simp[go_sem,f44,f45,hil',f7,f8];done)))
   refine wcm (id:=14) (i:=k) (ver:=vo) rfl rfl rfl (by simp) zge (by simp[go_sem,f7]) (by simp[go_sem]) hH2' hlt ?_;refine wdz (id:=14) (off:=k) (ver:=vo) (p :=.ps (mf.length+1000+k) vr2) rfl rfl rfl (by simp) (by simp[go_sem]) (cs:=cs2) (by simp[jl,hH2']) zeo (by simp[qw,hc2]) ?_
   repeat (refine PL.k rfl λKK hKK=>?_;simp (disch:=omega) [go_sem,jj];refine hKK _ ?_;clear hKK KK)
   refine wcm (id:=mf.length+1000+k) (i:=i) (ver:=vr2) rfl rfl rfl (by simp) zch (by simp[go_sem]) (by simp[go_sem]) hr2 (by rw[hrl];exact hil) ?_;refine wdc (id:=mf.length+1000+k) (i:=i) (ver:=vr2) (z := -1) rfl rfl rfl znp (by simp[go_sem]) (by simp[go_sem]) hr2 (by rw[hrl];exact hil) λH12 b12 o12=>?_
   repeat (first|(refine PC.region ?_)|(refine PL.done hK ?_;clear hK))
   have ho12:=ownLL.put (H:=H11) (H':=H12) (z:=k) (vr:=vr2) (by omega) hH2 hi2 (hget _) hc2 (by simp) b12 o12;rw[List.set_set,jb0 (-1:Int) 0 hil]at ho12;have hwb:(w:Int)<=1000001:=by omega
   repeat (refine PL.k rfl λKK hKK=>?_;simp (disch:=omega) [go_sem,jj,f45,hwb];refine hKK _ ?_;clear hKK KK)
   refine PL.nil ⟨w-(i+1),by omega,i+1,by omega,rfl,?_⟩;exact⟨by simp[go_sem,f1],by rw[o12 1 (by omega)];exact b1,by simp[go_sem,f4],by
    obtain⟨ver,bs',clock,cs,e1,e2,e3,e0,e4,e5⟩:=hq11;exact⟨ver,bs',clock,cs,e1,(o12 10 (by omega)).trans e2,e3,e0,e4,λj c x h3 h4=>(e5 j c x h3 h4).mono (o12 _ (by have:=(wd5.1 h4).1;omega))⟩,by simp[go_sem,f7],ho12,by simp[go_sem,f28],by simp[go_sem,f29],by simp[go_sem,f8],by simp[go_sem,f44],by simp[go_sem]⟩
  ·have hil':¬(i:Int)<w:=by omega
   have hie:i=w:=by omega
   subst hie;have ek:(zey N i k).set k (List.replicate i (-1)++List.replicate (i-i) 0)=zey N i (k+1):=by
    rw[wg2,List.replicate_zero,weq];unfold zey;exact jb0 _ _ hlt
   rw[ek]at ho11;have hNb:(N:Int)<=1000000:=by omega
   repeat (first|(refine PC.seq λK hK=>?_)|(refine PC.region ?_)|(refine PL.k rfl λKK hKK=>?_;simp (disch:=omega) [go_sem,jj,f44,f45,hil',f29,hNb];refine hKK _ ?_;clear hKK KK)|(refine PL.done hK ?_;clear hK)|(refine wag ?_ ?_;focus (simp[go_sem,f44,f45,hil',f29,hNb];done))|(refine PC.exit ?_;first|(refine hK _ _ ?_;clear hK)|(clear hK;refine hK _ _ ?_;clear hK)|(clear hK;clear hK;refine hK _ _ ?_;clear hK)))
   refine PL.nil ⟨N-(k+1),by omega,k+1,by omega,rfl,by simp[go_sem,f1],b1,by simp[go_sem,f4],hq11,by simp[go_sem,f7],ho11,by simp[go_sem,f28],by simp[go_sem]⟩
 ·have hlt':¬(k:Int)<N:=by omega
  have hke:k=N:=by omega
  subst hke;have ek:zey k w k=zyj k w:=by unfold zey zyj;simp
  rw[ek]at ho;obtain⟨ver,bs',clock,cs,rfl,hH10,hbl,⟨hnd,_⟩,hcl,hrows⟩:=hq7
  repeat (first|(refine PC.seq λK hK=>?_)|(refine PC.region ?_)|(refine PL.k rfl λKK hKK=>?_;simp (disch:=omega) [go_sem,jj,f28,f29,hlt',f4];refine hKK _ ?_;clear hKK KK)|(refine PL.done hK ?_;clear hK)|(refine wag ?_ ?_;focus (simp[go_sem,f28,f29,hlt',f4];done))|(refine PC.exit ?_;first|(refine hK _ _ ?_;clear hK)|(clear hK;refine hK _ _ ?_;clear hK)|(clear hK;clear hK;refine hK _ _ ?_;clear hK)))
  refine waz rfl (wcg (id:=10) (r:=16) (d:=57) (key:=113) (elem:=31) rfl rfl (by simp) (by kernel_rfl) (by decide) hH10 (by simp[go_sem]) ?_)
  repeat (first|(refine PC.block ?_)|(refine PL.done hK ?_;clear hK))
  generalize hv57:(H8 16).ver+1=v57;have hkv:∀(j:Nat)(x:Value),((mf.map (·.1)).map plv)[j]?=some x->∃e,mf[j]?=some e/\x=plv e.1:=λj x h=>by
   rw[web,web]at h;cases he:mf[j]? with
   |none=>rw[he]at h;cases h
   |some e=>rw[he]at h;cases h;exact⟨e,rfl,rfl⟩
  refine PC.loop (λf F H'=>∃(seen:Array Nat)(ll:List (List Int)),f=(bs'.filter λb=>!seen.contains b).length/\Tab k w (λe=>∃(j b:Nat),mf[j]?=some e/\bs'[j]?=some b/\seen.contains b=true) ll/\F 7=.ps 14 vo/\ownLL 31 3 (mf.length+1000) I H' 14 (.ps 14 vo) ll/\F 57=.ps 16 v57/\H' 16=⟨v57,some (itB 10 ver clock seen clock)⟩/\H' 10=H8 10/\∀j,j<mf.length->H' (1000+j)=H8 (1000+j)) (m:=(bs'.filter λb=>!(#[]:Array Nat).contains b).length)
   ⟨#[],zyj k w,rfl,by
    have e:(λe=>∃(j b:Nat),mf[j]?=some e/\bs'[j]?=some b/\(#[]:Array Nat).contains b=true)=λ_=>False:=by funext e;simp
    rw[e];exact Tab.start k w,by simp[go_sem,f7],ho.mono (by simp[PHeap.set]) (λj hj=>by simp only[PHeap.set];rw[if_neg (by omega)]),by simp[go_sem],by simp[PHeap.set],by simp[PHeap.set],λj hj=>by simp only[PHeap.set];rw[if_neg (by omega)]⟩ λf F H9 hI=>?_
  clear ho f7 f1 f28 f29 f4;obtain⟨seen,ll,rfl,hT,f7,ho,f57,b16,h10,hrw⟩:=hI;have b10:H9 10=⟨ver,some (Vw ((mf.map (·.1)).map plv) bs' clock cs)⟩:=h10.trans hH10;refine PC.seq λK hK=>?_;refine PC.region ?_;refine waz rfl (wcx (id:=10) (r:=16) rfl (by simp[jo]) b10 b16 (by simp[go_sem,f57]) (λhall=>?_) λj b c kk hbj hcj hkj hsn=>?_)
  ·repeat (first|(refine PC.seq λK hK=>?_)|(refine PC.region ?_)|(refine PL.k rfl λKK hKK=>?_;simp (disch:=omega) [go_sem,jj,f7];refine hKK _ ?_;clear hKK KK)|(refine PL.done hK ?_;clear hK)|(refine wag ?_ ?_;focus (simp[go_sem,f7];done))|(refine PC.exit ?_;first|(refine hK _ _ ?_;clear hK)|(clear hK;refine hK _ _ ?_;clear hK)|(clear hK;clear hK;refine hK _ _ ?_;clear hK)))
   have hS:(λe=>∃(j b:Nat),mf[j]?=some e/\bs'[j]?=some b/\seen.contains b=true)=λe=>e∈mf:=by
    funext e;apply propext;constructor
    ·rintro⟨j,b,h,_,_⟩;exact wd7 h
    ·intro h;obtain⟨j,hj⟩:=wes h;have hlt:=(wd5.1 hj).1;obtain⟨b,hb⟩:∃b,bs'[j]?=some b:=⟨_,wd2 (by omega)⟩
     exact⟨j,b,hj,hb,hall b (wd7 hb)⟩
   rw[hS]at hT;have ell:ll=jej bs.length (ts.length+1) mf:=by
    rw[<- hN,<- hw];exact hT.uniq hu (z62 hk)
   rw[<- ell];refine PC.ret ⟨.inr rfl,.tup [.ps 14 vo,I 0],.tup [zmv ll,I 0],by simp[Qi,z6,Tryz.results26,go_sem],?_,?_,rfl⟩
   ·exact View.tup rfl λi p q h1 h2=>by
     match i,h1,h2 with
     |0,h1,h2=>cases h1;cases h2;exact ho.view (λ_=>rfl) (λ_=> .u _)
     |1,h1,h2=>cases h1;cases h2;exact View.noP (.u _)
   ·exact .tup _ λc hc=>by simp at hc;rcases hc with rfl|rfl;exact zbw _;exact .u _
  ·obtain⟨e,he,rfl⟩:=hkv j kk hkj;generalize eH10:H9.set 16 ⟨v57,some (itB 10 ver clock (seen.push b) clock)⟩=H10;have b16':H10 16=⟨v57,some (itB 10 ver clock (seen.push b) clock)⟩:=by rw[<- eH10];simp[PHeap.set]
   have o10:∀j,j≠16->H10 j=H9 j:=λj hj=>by rw[<- eH10];simp[PHeap.set,hj]
   have hofV:ofV (plv e.1)=.agg [I e.1.1,I e.1.2]:=rfl;rw[hofV]
   repeat (first|(refine PC.seq λK hK=>?_)|(refine PC.block ?_)|(refine PC.region ?_)|(refine PL.k rfl λKK hKK=>?_;simp (disch:=omega) [go_sem,jj];refine hKK _ ?_;clear hKK KK)|(refine PL.done hK ?_;clear hK)|(refine PC.skip (hK _ _ ?_);clear hK)|(refine wah ?_ ?_;focus (simp[go_sem];done)))
   refine waz rfl (wak (by simp[jo]) (wce (id:=10) (r:=16) (j:=j) (b:=b) (c:=c) (k:=plv e.1) rfl (by rw[o10 10 (by decide)];exact b10) b16' (by simp[go_sem,f57]) hbj hcj hkj) ?_);rw[hofV]
   repeat (refine PL.k rfl λKK hKK=>?_;simp (disch:=omega) [go_sem,jj];refine hKK _ ?_;clear hKK KK)
   refine war 15 (d:=10) rfl rfl rfl (by simp) Yd rfl rfl λv15 H11 b15 o11=>?_;refine wao (id:=15) rfl rfl (by simp[jo]) (by simp[go_sem];rfl) b15 Y4 (v :=.agg [I e.1.1,I e.1.2]) (ps:=[I e.1.1,I e.1.2]) (by simp[go_sem]) rfl rfl rfl (by simp) (cs':=[I e.1.1,I e.1.2]) rfl λH12 b15 o12=>?_
   repeat (first|(refine PL.k rfl λKK hKK=>?_;simp (disch:=omega) [go_sem,jj];refine hKK _ ?_;clear hKK KK)|(refine PL.done hK ?_;clear hK))
   have hem:e∈mf:=wd7 he;have hjl:j<mf.length:=(wd5.1 he).1;obtain⟨hk1,hk2,hk3,hk4,hk5⟩:=hk e hem;obtain⟨r,er⟩:∃r:Nat,e.1.1=r:=⟨e.1.1.toNat,by omega⟩
   obtain⟨t,et⟩:∃t:Nat,e.1.2=t:=⟨e.1.2.toNat,by omega⟩
   have hrl:r<ll.length:=by rw[hT.n];omega
   obtain⟨row,hrow⟩:∃row,ll[r]?=some row:=⟨_,wd2 hrl⟩
   have hrw':row.length=w:=hT.w r row hrow;have htlt:t<row.length:=by omega
   have ho12:ownLL 31 3 (mf.length+1000) I H12 14 (.ps 14 vo) ll:=ho.mono (by rw[o12 14 (by decide),o11 14 (by decide),o10 14 (by decide)]) (λi hi=>by rw[o12 i (by omega),o11 i (by omega),o10 i (by omega)]);obtain⟨cs2,vo2,vr2,hv2,hH2',hi2,hc2,hr2'⟩:=ownLL.row ho12 hrow (λe=>by rw[e]at htlt;simp at htlt);cases hv2;rw[Nat.add_right_comm]at hc2 hr2';obtain⟨vj,hcv,hjH⟩:=wbp (hrows j c e hcj he) (λh=>hk5 (wek h));rw[zaq (λ_=>rfl),wf9 1000 j]at hjH;rw[wf9 1000 j]at hcv;have hjH:H12 (j+1000)=⟨vj,some (.row 3 1 e.2.length (e.2.map I))⟩:=by rw[o12 _ (by omega),o11 _ (by omega),o10 _ (by omega),wf9 j 1000,hrw j hjl,wf9 1000 j];exact hjH
   have hrlt:r<ll.length:=hrl;obtain⟨z,hz⟩:∃z,e.2.headD 0=z:=⟨_,rfl⟩
   have hz0:(e.2.map I)[0]?=some (I z):=by
    cases h2:e.2 with
    |nil=>exact absurd h2 hk5
    |cons a l=>rw[h2]at hz;simp at hz;simp[hz]
   have hel:0<e.2.length:=List.length_pos_iff.2 hk5;subst hcv;rw[er,et]at b15;have hsm:setMany (row.map I) t [I z]=(row.set t z).map I:=by
    apply wfj;intro i;have:=za (row.map I) [I z] t (by simp;omega) i;rw[this,List.map_set,wev];by_cases e:t=i
    ·subst e;simp[htlt]
    ·have h3:¬(t<=i/\i<t+[I z].length):=by simp;omega
     rw[if_neg h3,if_neg e]
   refine A4 7 (show _=PV.ps 14 vo by simp[go_sem,f7]) 10 (show _=PV.pp 15 0 v15 by simp[go_sem]) 11 (show _=PV.ps (j+1000) vj by simp[go_sem]) 57 (show _=PV.ps 16 v57 by simp[go_sem,f57]) λF f7 f15 f11 f57=>?_;refine PC.mono (T.PSteps.drawn mixed (
    T.PSteps.q (.ps 14 vo) [] rfl (by simp[jo]) (λF' H' hF hH=>by have g7:F' 7=.ps 14 vo:=(hF 7 (by simp[Oper.looksAt,Op.operands])).trans (by simp[go_sem,f7,f15,f11]);exact jh (by simp[go_sem,jr,g7])) <|
    T.PSteps.q (.pp 15 0 v15) [15] rfl (by simp[jo]) (λF' H' hF hH=>by have g10:F' 10=.pp 15 0 v15:=(hF 10 (by simp[Oper.looksAt,Op.operands])).trans (by simp[go_sem,f7,f15,f11]);have k15:H' 15=⟨v15,some (.box 113 [I r,I t])⟩:=(hH 15 (by simp)).trans b15;exact jh (by simp[go_sem,jr,g10,k15])) <|
    T.PSteps.q (I r) [15] rfl (by simp[jo]) (λF' H' hF hH=>by have g64:F' 64=.pp 15 0 v15:=(hF 64 (by simp[Oper.looksAt,Op.operands])).trans (by simp[go_sem,f7,f15,f11]);have k15:H' 15=⟨v15,some (.box 113 [I r,I t])⟩:=(hH 15 (by simp)).trans b15;exact jh (by simp[go_sem,jr,g64,k15])) <|
    T.PSteps.q (.pp 14 r vo) [14] rfl (by simp[jo]) (λF' H' hF hH=>by have g63:F' 63=.ps 14 vo:=(hF 63 (by simp[Oper.looksAt,Op.operands])).trans (by simp[go_sem,f7,f15,f11]);have g65:F' 65=I r:=(hF 65 (by simp[Oper.looksAt,Op.operands])).trans (by simp[go_sem,f7,f15,f11]);have k14:H' 14=⟨vo,some (.row 31 1 ll.length cs2)⟩:=(hH 14 (by simp)).trans hH2';exact jh (zg9 (i:=r) rfl zge (by simp only[evP];exact g63) (by simp only[evP];exact g65) k14 hrlt)) <|
    T.PSteps.q (.ps (mf.length+r+1000) vr2) [14] rfl (by simp[jo]) (λF' H' hF hH=>by have g66:F' 66=.pp 14 r vo:=(hF 66 (by simp[Oper.looksAt,Op.operands])).trans (by simp[go_sem,f7,f15,f11]);have k14:H' 14=⟨vo,some (.row 31 1 ll.length cs2)⟩:=(hH 14 (by simp)).trans hH2';exact jh (by simp[go_sem,jr,g66,yc,jl,k14,qw,hc2])) <|
    T.PSteps.q (.pp 15 1 v15) [15] rfl (by simp[jo]) (λF' H' hF hH=>by have g10:F' 10=.pp 15 0 v15:=(hF 10 (by simp[Oper.looksAt,Op.operands])).trans (by simp[go_sem,f7,f15,f11]);have k15:H' 15=⟨v15,some (.box 113 [I r,I t])⟩:=(hH 15 (by simp)).trans b15;exact jh (by simp[go_sem,jr,g10,k15])) <|
    T.PSteps.q (I t) [15] rfl (by simp[jo]) (λF' H' hF hH=>by have g68:F' 68=.pp 15 1 v15:=(hF 68 (by simp[Oper.looksAt,Op.operands])).trans (by simp[go_sem,f7,f15,f11]);have k15:H' 15=⟨v15,some (.box 113 [I r,I t])⟩:=(hH 15 (by simp)).trans b15;exact jh (by simp[go_sem,jr,g68,k15])) <|
    T.PSteps.q (.ps (j+1000) vj) [] rfl (by simp[jo]) (λF' H' hF hH=>by have g11:F' 11=.ps (j+1000) vj:=(hF 11 (by simp[Oper.looksAt,Op.operands])).trans (by simp[go_sem,f7,f15,f11]);exact jh (by simp[go_sem,jr,g11])) <|
    T.PSteps.q (.pp (j+1000) 0 vj) [j+1000] rfl (by simp[jo]) (λF' H' hF hH=>by have g70:F' 70=.ps (j+1000) vj:=(hF 70 (by simp[Oper.looksAt,Op.operands])).trans (by simp[go_sem,f7,f15,f11]);have kj:H' (j+1000)=⟨vj,some (.row 3 1 e.2.length (e.2.map I))⟩:=(hH (j+1000) (by simp)).trans hjH;exact jh (zg9 (i:=0) rfl zch (by simp only[evP];exact g70) rfl kj (by omega))) <|
    T.PSteps.q (I z) [j+1000] rfl (by simp[jo]) (λF' H' hF hH=>by have g71:F' 71=.pp (j+1000) 0 vj:=(hF 71 (by simp[Oper.looksAt,Op.operands])).trans (by simp[go_sem,f7,f15,f11]);have kj:H' (j+1000)=⟨vj,some (.row 3 1 e.2.length (e.2.map I))⟩:=(hH (j+1000) (by simp)).trans hjH;exact jh (by simp[go_sem,jr,g71,yc,jl,kj,qw,hz0])) <|
    T.PSteps.q (.pp (mf.length+r+1000) t vr2) [mf.length+r+1000] rfl (by simp[jo]) (λF' H' hF hH=>by have g67:F' 67=.ps (mf.length+r+1000) vr2:=(hF 67 (by simp[Oper.looksAt,Op.operands])).trans (by simp[go_sem,f7,f15,f11]);have g69:F' 69=I t:=(hF 69 (by simp[Oper.looksAt,Op.operands])).trans (by simp[go_sem,f7,f15,f11]);have kr:H' (mf.length+r+1000)=⟨vr2,some (.row 3 1 row.length (row.map I))⟩:=(hH _ (by simp)).trans hr2';exact jh (zg9 (i:=t) rfl zch (by simp only[evP];exact g67) (by simp only[evP];exact g69) kr htlt)) <|
    T.PSteps.w (.u undef) [mf.length+r+1000] (mf.length+r+1000) ⟨vr2,some (.row 3 1 row.length ((row.set t z).map I))⟩ rfl (λF' H' hF hH=>by have g73:F' 73=.pp (mf.length+r+1000) t vr2:=(hF 73 (by simp[Oper.looksAt,Op.operands])).trans (by simp[go_sem]);have g72:F' 72=I z:=(hF 72 (by simp[Oper.looksAt,Op.operands])).trans (by simp[go_sem]);have kr:H' (mf.length+r+1000)=⟨vr2,some (.row 3 1 row.length (row.map I))⟩:=(hH _ (.inr rfl)).trans hr2';exact PE.store (id:=mf.length+r+1000) (off:=t) (ver:=vr2) rfl (by simp[jo]) (by simp only[evP];exact g73) (cs:=row.map I) (by simp[jl,kr]) znp (by simp only[evP];rw[g72];rfl) (by simp only[evP];rw[g72];rfl) (by simp;omega) (bd :=.row 3 1 row.length (row.map I)) (by rw[kr]) ⟨rfl,by simp only[evP];rw[g72];exact congrArg (λcs=>H'.set (mf.length+r+1000) ⟨vr2,some (.row 3 1 row.length cs)⟩) hsm⟩) <|
    T.PSteps.nil) (by kernel_rfl)) λex F' H'⟨h1,h2,h3⟩=>?_
   subst h1;subst h2;subst h3;have hstep:=hT.step (hk e hem);have hS:(λx=>(∃(j b:Nat),mf[j]?=some x/\bs'[j]?=some b/\seen.contains b=true)\/x=e)=λx=>∃(j' b':Nat),mf[j']?=some x/\bs'[j']?=some b'/\(seen.push b).contains b'=true:=by
    funext x;apply propext;simp only[contains_push,wft,beq_iff_eq];constructor
    ·rintro(⟨j',b',h1,h2,h3⟩|rfl)
     ·exact⟨j',b',h1,h2,.inl h3⟩
     ·exact⟨j,b,he,hbj,.inr rfl⟩
    ·rintro⟨j',b',h1,h2,h3|rfl⟩
     ·exact .inl ⟨j',b',h1,h2,h3⟩
     ·right;have hjj:j'=j:=by
       have h4:=wd5.1 h2;have h5:=wd5.1 hbj;exact(List.getElem_inj hnd).1 (h4.2.trans h5.2.symm)
      rw[hjj,he]at h1;cases h1;rfl
   rw[hS]at hstep;have hms:(bs'.filter λb'=>!(seen.push b).contains b').length<(bs'.filter λb'=>!seen.contains b').length:=
    filter_lt _ _ (λx hx=>by simp only[contains_push,Bool.not_or,wd8]at hx;exact hx.1) b (by show(!seen.contains b)=true;rw[hsn];rfl) (by simp[contains_push]) bs' (wd7 hbj)
   have eT:zo3 ll e=ll.set r (row.set t z):=by
    unfold zo3;rw[er,et,hz];simp[List.getD,hrow]
   rw[eT]at hstep;have hput:=ownLL.put (H:=H12) (H':=H12.set (mf.length+r+1000) ⟨vr2,some (.row 3 1 row.length ((row.set t z).map I))⟩) (z:=r) (vr:=vr2) (v:=row) (zs:=row.set t z) (base:=mf.length+1000) (by omega) hH2' hi2 hrow (by rw[Nat.add_right_comm];exact hc2) (by simp) (by rw[Nat.add_right_comm];simp[PHeap.set]) (λj hj=>by rw[Nat.add_right_comm]at hj;simp[PHeap.set,hj]);refine⟨_,hms,seen.push b,_,rfl,hstep,by simp[go_sem,f7],hput,by simp[go_sem,f57],?_,?_,λi hi=>?_⟩
   ·simp only[PHeap.set];rw[if_neg (by omega),o12 16 (by decide),o11 16 (by decide)];exact b16'
   ·simp only[PHeap.set];rw[if_neg (by omega),o12 10 (by decide),o11 10 (by decide),o10 10 (by decide)];exact h10
   ·simp only[PHeap.set];rw[if_neg (by omega),o12 _ (by omega),o11 _ (by omega),o10 _ (by omega)];exact hrw i hi
theorem z3x{gV:PV}{ps:List PrP}(h:GrV gV ps)(hr:PCall Tryz.prog 72 [gV] (· = B false)):PCall Tryz.prog 26 [gV] (· =.tup [zmv [],I 3]):=by
 obtain⟨kg,hkg,hlen⟩:=h.len;obtain⟨ts,bs,rest,wa,hgV⟩:=h.shape;have hgc:PV.agg gV.cells=gV:=by rw[hgV];rfl
 refine waf Tryz.func26 rfl Tryz.ntmps26 (by simp) λW=>?_;refine PC.seq λK hK=>?_;refine PC.region ?_;refine wbg 1 (d:=1) rfl rfl rfl (by simp) (v:=gV) (by simp[go_sem]) (h.ok _) rfl λv1 H1 b1 o1=>?_
 repeat (first|(refine PC.seq λK hK=>?_)|(refine PC.region ?_)|(refine PL.k rfl λKK hKK=>?_;simp (disch:=omega) [go_sem,jj];refine hKK _ ?_;clear hKK KK)|(refine PL.done hK ?_;clear hK))
 refine wa2 (id:=1) (off:=0) (ver:=v1) (p:=gV) rfl rfl rfl (by simp) (by simp[go_sem]) b1 hkg (by rw[wgn,J8 hlen,hgc]) ?_;refine waj rfl rfl (by kernel_rfl) hr (by simp[go_sem]) (by simp[go_sem,h.np]) (by simp[go_sem,View.noP h.np]) ?_
 repeat (first|(refine PC.seq λK hK=>?_)|(refine PC.region ?_)|(refine PL.k rfl λKK hKK=>?_;simp (disch:=omega) [go_sem,jj];refine hKK _ ?_;clear hKK KK)|(refine PL.done hK ?_;clear hK)|(refine wah ?_ ?_;focus (simp[go_sem];done)))
 refine PC.ret ⟨.inr rfl,.tup [.u (.slice none 0 0),I 3],.tup [zmv [],I 3],by simp[Qi,z6,Tryz.results26,go_sem],?_,?_,rfl⟩
 ·exact View.tup rfl λi p q h1 h2=>by
   match i,h1,h2 with
   |0,h1,h2=>cases h1;cases h2;exact View.nil _ _ _
   |1,h1,h2=>cases h1;cases h2;exact View.noP (.u _)
 ·exact .tup _ λc hc=>by simp at hc;rcases hc with rfl|rfl;exact zbw _;exact .u _
theorem zzs{gV:PV}{ps:List PrP}{mf:PM}(h:GrV gV ps)(hr:PCall Tryz.prog 72 [gV] (· = B true))(hf:zq7 gV mf)(hnc:(jx mf).2=true):PCall Tryz.prog 26 [gV] (· =.tup [zmv [],I 15]):=by
 obtain⟨kg,hkg,hlen⟩:=h.len;obtain⟨ts,bs,rest,wa,hgV⟩:=h.shape;have hgc:PV.agg gV.cells=gV:=by rw[hgV];rfl
 refine waf Tryz.func26 rfl Tryz.ntmps26 (by simp) λW=>?_;refine PC.seq λK hK=>?_;refine PC.region ?_;refine wbg 1 (d:=1) rfl rfl rfl (by simp) (v:=gV) (by simp[go_sem]) (h.ok _) rfl λv1 H1 b1 o1=>?_
 repeat (first|(refine PC.seq λK hK=>?_)|(refine PC.region ?_)|(refine PL.k rfl λKK hKK=>?_;simp (disch:=omega) [go_sem,jj];refine hKK _ ?_;clear hKK KK)|(refine PL.done hK ?_;clear hK))
 refine wa2 (id:=1) (off:=0) (ver:=v1) (p:=gV) rfl rfl rfl (by simp) (by simp[go_sem]) b1 hkg (by rw[wgn,J8 hlen,hgc]) ?_;refine waj rfl rfl (by kernel_rfl) hr (by simp[go_sem]) (by simp[go_sem,h.np]) (by simp[go_sem,View.noP h.np]) ?_
 repeat (first|(refine PC.seq λK hK=>?_)|(refine PC.region ?_)|(refine PL.k rfl λKK hKK=>?_;simp (disch:=omega) [go_sem,jj];refine hKK _ ?_;clear hKK KK)|(refine PL.done hK ?_;clear hK)|(refine PC.skip (hK _ _ ?_);clear hK)|(refine wag ?_ ?_;focus (simp[go_sem];done)))
 refine wa2 (id:=1) (off:=0) (ver:=v1) (p:=gV) rfl rfl rfl (by simp) (by simp[go_sem]) b1 hkg (by rw[wgn,J8 hlen,hgc]) ?_;refine PL.inl rfl rfl (hf H1) (by simp[jo]) (by simp[yr,go_sem]) λq H3⟨hq,o3⟩=>?_
 repeat (first|(refine PC.seq λK hK=>?_)|(refine PC.region ?_)|(refine PL.k rfl λKK hKK=>?_;simp (disch:=omega) [go_sem,jj];refine hKK _ ?_;clear hKK KK)|(refine PL.done hK ?_;clear hK))
 refine PL.inl rfl rfl (zru H3 q mf hq) (by simp[jo]) (by simp[yr,go_sem]) λc H4⟨hc,o4⟩=>?_;subst hc
 repeat (refine PL.k rfl λKK hKK=>?_;simp (disch:=omega) [go_sem,jj];refine hKK _ ?_;clear hKK KK)
 refine war 5 (d:=5) rfl rfl rfl (by simp) Yd rfl rfl λv5 H5 b5 o5=>?_;refine wao (id:=5) rfl rfl (by simp[jo]) (by simp[go_sem];rfl) b5 Y4 (v :=.agg [I (jx mf).1.1,I (jx mf).1.2]) (ps:=[I (jx mf).1.1,I (jx mf).1.2]) (by simp[go_sem]) rfl rfl rfl (by simp) (cs':=[I (jx mf).1.1,I (jx mf).1.2]) rfl λH6 b5 o6=>?_
 repeat (first|(refine PC.seq λK hK=>?_)|(refine PC.region ?_)|(refine PL.k rfl λKK hKK=>?_;simp (disch:=omega) [go_sem,jj,hnc];refine hKK _ ?_;clear hKK KK)|(refine PL.done hK ?_;clear hK)|(refine wah ?_ ?_;focus (simp[go_sem,hnc];done)))
 refine PC.ret ⟨.inr rfl,.tup [.u (.slice none 0 0),I 15],.tup [zmv [],I 15],by simp[Qi,z6,Tryz.results26,go_sem],?_,?_,rfl⟩
 ·exact View.tup rfl λi p q h1 h2=>by
   match i,h1,h2 with
   |0,h1,h2=>cases h1;cases h2;exact View.nil _ _ _
   |1,h1,h2=>cases h1;cases h2;exact View.noP (.u _)
 ·exact .tup _ λc hc=>by simp at hc;rcases hc with rfl|rfl;exact zbw _;exact .u _
end Go.Proofs.YtdllbdlnmjngcaaGreat
