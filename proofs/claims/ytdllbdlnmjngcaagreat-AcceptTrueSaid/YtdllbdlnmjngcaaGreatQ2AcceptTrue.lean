/-
  Texts of this proof, put together: LTab, RxFn, Kit, Ty, Ga, Gb, Gc, Gd, Shelf, RiseFn, ShI, Ge, Gf, Gm, Gn, Go, Gp, Gq, Gr, Gs, Row, Op, Ta, Tb, Tc, Td, Te, Tf, Tg, Th, Ti, Tj.
-/
import Derived.Test.YtdllbdlnmjngcaaGreatRows
import Derived.WalkKit
import Derived.Lib.Hide
import Derived.Outline
import Derived.Deep.QuietTactic
import Derived.BigQuiet
import Derived.WalkSmall
import Derived.StillTailTactics
import Derived.Scope
import Derived.Shelf.Sort.Plain
import Derived.Ground.Names2Prog
import Derived.Shelf.Slices.Clone
import Derived.Shelf.Slices.CompactI
import Derived.Shelf.Slices.SearchI
import Derived.Shelf.Slices.Cells
import Derived.Shelf.Slices.In.SortNone
import Derived.Shelf.Slices.Empties
import Derived.Test.YtdllbdlnmjngcaaGreatProg
import Derived.Lib.SlicesCompact
import Derived.Sort.OwnSortedInts
import Derived.Lib.OwnBridge
import Derived.MapKept
import Derived.Laws.StructEq
import Derived.Laws.BytesArg
import Derived.ProofKit
import Derived.OpenShut
import Derived.Deep.Slices
import Derived.Test.YtdllbdlnmjngcaaGreatQ1AcceptTrue

namespace Go.Proofs.YtdllbdlnmjngcaaGreat.L
set_option maxRecDepth 100000
set_option maxHeartbeats 8000000
set_option linter.unusedVariables false
set_option linter.unusedSimpArgs false
open Go
@[go_sem] theorem znp:asz Tryz.prog 3=some (false,1):=by kernel_rfl
@[go_sem] theorem zrj:asz Tryz.prog 4=some (false,1):=by kernel_rfl
@[go_sem] theorem asz_22:asz Tryz.prog 22=some (false,1):=by kernel_rfl
@[go_sem] theorem asz_23:asz Tryz.prog 23=some (false,1):=by kernel_rfl
@[go_sem] theorem asz_24:asz Tryz.prog 24=some (false,1):=by kernel_rfl
@[go_sem] theorem esz_24:esz Tryz.prog 24=some 2:=by kernel_rfl
@[go_sem] theorem asz_26:asz Tryz.prog 26=some (true,8):=by kernel_rfl
@[go_sem] theorem fof_26_0:fof Tryz.prog 26 0=some (0,22):=by kernel_rfl
@[go_sem] theorem fof_26_1:fof Tryz.prog 26 1=some (1,23):=by kernel_rfl
@[go_sem] theorem fof_26_2:fof Tryz.prog 26 2=some (2,24):=by kernel_rfl
@[go_sem] theorem za2:asz Tryz.prog 30=some (false,1):=by kernel_rfl
@[go_sem] theorem zge:esz Tryz.prog 30=some 1:=by kernel_rfl
@[go_sem] theorem zil:y7 Tryz.prog 30=true:=by kernel_rfl
@[go_sem] theorem zzj:yq Tryz.prog 30=some (31,1,24,.slice none 0 0):=by kernel_rfl
@[go_sem] theorem jad:zfn Tryz.prog 30=some ([(.slice none 0 0)]):=by kernel_rfl
@[go_sem] theorem zeo:asz Tryz.prog 31=some (false,1):=by kernel_rfl
@[go_sem] theorem zch:esz Tryz.prog 31=some 1:=by kernel_rfl
@[go_sem] theorem Zp:y7 Tryz.prog 31=true:=by kernel_rfl
@[go_sem] theorem zz:yq Tryz.prog 31=some (3,1,8,.int .i64 0):=by kernel_rfl
@[go_sem] theorem zv0:asz Tryz.prog 33=some (true,259):=by kernel_rfl
@[go_sem] theorem zkg:fof Tryz.prog 33 2=some (257,30):=by kernel_rfl
@[go_sem] theorem jbe:fof Tryz.prog 33 3=some (258,31):=by kernel_rfl
@[go_sem] theorem z3s:asz Tryz.prog 36=some (true,3):=by kernel_rfl
@[go_sem] theorem bldT_36:z0e Tryz.prog 36=some ([.u (.int .i64 0),.u (.int .i64 0),.u (.int .i64 0)],[(0,1),(1,1),(2,1)]):=by kernel_rfl
@[go_sem] theorem zzm:zfn Tryz.prog 36=some ([(.int .i64 0),(.int .i64 0),(.int .i64 0)]):=by kernel_rfl
@[go_sem] theorem asz_42:asz Tryz.prog 42=some (false,1):=by kernel_rfl
@[go_sem] theorem z2z:esz Tryz.prog 42=some 1:=by kernel_rfl
@[go_sem] theorem zyu:yq Tryz.prog 42=some (4,1,1,.bool false):=by kernel_rfl
@[go_sem] theorem esz_45:esz Tryz.prog 45=some 5:=by kernel_rfl
@[go_sem] theorem asz_66:asz Tryz.prog 66=some (true,2):=by kernel_rfl
@[go_sem] theorem fof_66_0:fof Tryz.prog 66 0=some (0,3):=by kernel_rfl
@[go_sem] theorem jam:zfn Tryz.prog 66=some ([(.int .i64 0),(.slice none 0 0)]):=by kernel_rfl
@[go_sem] theorem asz_97:asz Tryz.prog 97=some (true,4):=by kernel_rfl
@[go_sem] theorem Y4:asz Tryz.prog 113=some (true,2):=by kernel_rfl
@[go_sem] theorem fof_113_0:fof Tryz.prog 113 0=some (0,3):=by kernel_rfl
@[go_sem] theorem fof_113_1:fof Tryz.prog 113 1=some (1,3):=by kernel_rfl
@[go_sem] theorem bldT_113:z0e Tryz.prog 113=some ([.u (.int .i64 0),.u (.int .i64 0)],[(0,1),(1,1)]):=by kernel_rfl
@[go_sem] theorem Yd:zfn Tryz.prog 113=some ([(.int .i64 0),(.int .i64 0)]):=by kernel_rfl
@[go_sem] theorem asz_119:asz Tryz.prog 119=some (false,1):=by kernel_rfl
@[go_sem] theorem esz_119:esz Tryz.prog 119=some 1:=by kernel_rfl
@[go_sem] theorem zlh:yq Tryz.prog 119=some (42,1,24,.slice none 0 0):=by kernel_rfl
@[go_sem] theorem asz_124:asz Tryz.prog 124=some (false,1):=by kernel_rfl
@[go_sem] theorem fof_126_0:fof Tryz.prog 126 0=some (0,124):=by kernel_rfl
@[go_sem] theorem fof_126_1:fof Tryz.prog 126 1=some (1,97):=by kernel_rfl
@[go_sem] theorem esz_153:esz Tryz.prog 153=some 1:=by kernel_rfl
@[go_sem] theorem zd9:yq Tryz.prog 153=some (119,1,24,.slice none 0 0):=by kernel_rfl
theorem mixed:Tryz.prog.follows .mixedOrders=true:=by kernel_rfl
end Go.Proofs.YtdllbdlnmjngcaaGreat.L
namespace Go.Proofs.YtdllbdlnmjngcaaGreat
set_option maxRecDepth 100000
set_option maxHeartbeats 8000000
set_option linter.unusedVariables false
set_option linter.unusedSimpArgs false
open Go
structure Rx where
 kind:Int
 s0:Int
 s1:Int
 s2:Int
 s3:Int
deriving DecidableEq
def zjb(a0 a1 a2 a3 b0 b1 b2 b3:Int):Bool:=a0 == b0 && (a1 == b1 && (a2 == b2 && a3 == b3))
def ofK(k:Int):Int:=if k=1\/k=2 then 0 else if k=3\/k=4 then 2 else if k=5\/k=6\/k=7 then 1 else -1
def Rx.bare(x:Rx):Bool:=zjb x.s0 x.s1 x.s2 x.s3 0 0 0 0
def vk:List Rx->Int->Int
 |[],q=>if q=1 then 0 else 3
 |x::r,q=>if ofK x.kind<0\/(x.kind≠1/\x.bare=false)then 1 else if q<ofK x.kind then 3 else vk r (q-ofK x.kind+1)
def zdl(l:List Rx):Int:=if 512<l.length then 4 else vk l 0
theorem z6s{α:Type}(l:List α)(k:Nat)(h:k<l.length):l.drop k=l[k]::l.drop (k+1):=we7 h
open Go.RowKit
section
variable{α:Type}
def Rd(enc:α->Value)(w:World)(v:Value)(l:List α):Prop:=
 ∃(a:Option Addr)(c:Nat),v=.slice a l.length c/\∀(j:Nat)(h:j<l.length),∃b o,a=some ⟨b,o,none⟩/\w.cell? ⟨b,o+j,none⟩=some (enc l[j])
def Ow(enc:α->Value)(e:TypeId)(w:World)(B:Nat)(v:Value)(l:List α):Prop:=w.ownsRow B e 1 v l.length (l.map enc)
variable{enc:α → Value}{e:TypeId}
theorem Rd_nil(w:World)(a:Option Addr)(c:Nat):Rd enc w (.slice a 0 c) []:=⟨a,c,rfl,λj h=>by cases h⟩
theorem Rd.shape{w:World}{v:Value}{l:List α}(h:Rd enc w v l):∃a c,v=.slice a l.length c:=by
 obtain⟨a,c,rfl,_⟩:=h;exact⟨_,_,rfl⟩
theorem Ow_nil(w:World)(B:Nat):Ow enc e w B (.slice none 0 0) []:=World.ownsRow_nil w B _ 1
end
abbrev RdI:=Rd (Value.int .i64)
abbrev OwI:=Ow (Value.int .i64) 3
open Go Go.RowKit L
def W64(z:Int):PV :=.u (.int .u64 z)
def z9r(x:Rx):PV :=.agg [W64 x.s0,W64 x.s1,W64 x.s2,W64 x.s3]
def Va(x:Rx):PV :=.agg [I x.kind,W64 x.s0,W64 x.s1,W64 x.s2,W64 x.s3]
def slI(l:List Int):PV :=.sl 1 (l.map I)
def slX(l:List Rx):PV :=.sl 5 (l.map Va)
theorem zc5(l:List Int):NoP (slI l) :=.sl _ _ λc hc=>by obtain⟨z,_,rfl⟩:=wef.1 hc;exact .u _
theorem z43(l:List Rx):NoP (slX l) :=.sl _ _ λc hc=>by obtain⟨z,_,rfl⟩:=wef.1 hc;exact .agg _ (λc hc=>by simp at hc;rcases hc with rfl|rfl|rfl|rfl|rfl<;>exact .u _)
def slB(l:List Bool):PV :=.sl 1 (l.map B)
def zmv(l:List (List Int)):PV :=.sl 1 (l.map slI)
theorem zj4(l:List Bool):NoP (slB l) :=.sl _ _ λc hc=>by obtain⟨z,_,rfl⟩:=wef.1 hc;exact .u _
theorem zbw(l:List (List Int)):NoP (zmv l) :=.sl _ _ λc hc=>by obtain⟨z,_,rfl⟩:=wef.1 hc;exact zc5 _
theorem rd_of{α:Type}{f:α->PV}{enc:α->Value}(hf:∀x,f x=.u (enc x)){Z:ZM}{w:World}{l:List α}{v:Value}(h:Rp Z PHeap.empty V0 w (.sl 1 (l.map f)) v):Rd enc w v l:=by
 have hfl:(l.map f).flatMap PV.cells=l.map f:=by
  clear h;induction l with
  |nil=>rfl
  |cons x l ih=>rw[wen,wex,ih,hf x];rfl
 generalize hx:l.map f=xs at h hfl;cases h with
 |nil k a c=>
  have:l=[]:=List.map_eq_nil_iff.1 hx;subst this;exact Rd_nil _ _ _
 |sl k xs b o c g hu hlen hz hb h1 h2=>
  subst hx;refine⟨_,c,by rw[wey],λj hj=>⟨b,o,rfl,?_⟩⟩;have hj':((l.map f).flatMap PV.cells)[j]?=some (f l[j]):=by rw[hfl];simp[hj]
  rw[h1 j _ hj'];have:=h2 j _ hj';rw[hf]at this;generalize g j=q at this;cases this;rfl
theorem rpu{Z:ZM}{H:PHeap}{V:Nat->Value}{w:World}{u v:Value}(h:Rp Z H V w (.u u) v):v=u:=by cases h;rfl
theorem rpl1{Z:ZM}{H:PHeap}{V:Nat->Value}{w:World}{p:PV}{vs:List Value}(h:RpL Z H V w [p] vs):∃v,vs=[v]/\Rp Z H V w p v:=by
 have h1:=h.1
 match vs,h1 with
 |[v],_=>exact⟨v,rfl,h.2 0 p v rfl rfl⟩
def ownL{α:Type}(e k:Nat)(rep:α->PV)(H:PHeap)(id:Nat)(q:PV)(l:List α):Prop:=OwnS H e k id q l.length ((l.map rep).flatMap PV.cells)
theorem cells1{α:Type}{rep:α->PV}(h:∀x,(rep x).cells=[rep x])(l:List α):(l.map rep).flatMap PV.cells=l.map rep:=by
 induction l with
 |nil=>rfl
 |cons m ms ih=>rw[wen,wex,ih,h];rfl
theorem ownL.nil{α:Type}{e k:Nat}{rep:α->PV}(H:PHeap)(id:Nat):ownL e k rep H id (.u (.slice none 0 0)) []:=OwnS.nil H e k id
theorem ownL.mono{α:Type}{e k id:Nat}{rep:α->PV}{H H':PHeap}{q:PV}{l:List α}(h:ownL e k rep H id q l)(he:H' id=H id):ownL e k rep H' id q l:=OwnS.mono h he
section
variable{P:Program}{W:Env}{n:Nat}{F:PFrame}{H:PHeap}{o:Oper}{l:List Oper}{ops:Array Oper}{K:PFrame → PHeap → Prop}
theorem wb3{α:Type}{rep:α->PV}{s x:Operand}{t e:TypeId}{k b d id:Nat}{z:Value}{q:PV}{xs ys:List α}(hg:o.guard=none)(ho:o.op=.call { callee :=.builtin .append,args:=#[s,x],argTypes:=#[t,t] })(hd:o.dst=some d)(hdn:d<n)(ht:yq P t=some (e,k,b,z))
  (hs:evP F s=q) (hr:ownL e k rep H id q xs) (hp:evP F x=.sl k (ys.map rep)) (hk:∀x,(rep x).cells.length=k) (hleaf:∀x,∀c∈(rep x).cells,qh H c=true) (h63:xs.length+ys.length<=maxLen) (hbytes:(xs.length+ys.length)*b<=140737488355328)
  (h:∀q' H',ownL e k rep H' id q' (xs++ys)->(∀j,j≠id->H' j=H j)->PL P W n ops l (F.put (some d) q') H' K):PL P W n ops (o::l) F H K:=by
 have hfl:((ys.map rep).flatMap PV.cells).length=ys.length*k:=by
  have:=L.flat_length (k:=k) (ys.map rep) (λy hy=>by obtain⟨z,_,rfl⟩:=wef.1 hy;exact hk z);simpa using this
 refine wc0 (m2:=ys.length) (cs2:=(ys.map rep).flatMap PV.cells) hg ho hd hdn ht hs hr hp (by simp[zdj]) hfl (λp hp=>?_) h63 hbytes λq' H' h1 o1=>h q' H' ?_ o1
 ·obtain⟨y,hy,hc⟩:=wfe.1 hp;obtain⟨z,_,rfl⟩:=wef.1 hy;exact hleaf z p hc
 ·unfold ownL;rw[weo,wfl,wf6];exact h1
theorem wck{a:Act}{w:World}{V:Nat->Value}{s e k id m:Nat}{q:PV}{cs:List PV}(hr:Rel P W n F H V a w)(hs:F s=q)(ho:OwnS H e k id q m cs)(xs:List PV)(hx:xs.flatMap PV.cells=cs)(hu:∀y∈xs,y.cells.length=k)(hm:xs.length=m):
  ∃H',(∀j,j≠id->H' j=H j)/\Rel P W n (F.put (some s) (.sl k xs)) H' V a w:=by
 rcases ho.2 with⟨rfl,h0⟩|⟨v,rfl,h2⟩
 ·refine⟨H,λ_ _=>rfl,hr.heap,hr.size,hr.defers,λt=>?_⟩;have:xs=[]:=wek (by omega);subst this;by_cases e:s=t
  ·subst e;have:=hr.slot s;rw[hs]at this;generalize a.tmps.getD s undef=u at this;cases this;simp only[PFrame.put,if_true];exact .nil _ _ _
  ·have e2:¬(some s=some t):=by simpa using e
   simp only[PFrame.put,if_neg e2];exact hr.slot t
 ·exact⟨_,λj hj=>by simp[PHeap.set,hj],hr.freeze hs h2 xs hx hu hm⟩
theorem wb8{α:Type}{rep:α->PV}{c:Code}{Q:Exit->PFrame->PHeap->Prop}{e k id:Nat}{q:PV}{xs:List α}(s:Nat)(hs:F s=q)(ho:ownL e k rep H id q xs)(hk:∀x,(rep x).cells.length=k)
  (h:∀H',(∀j,j≠id->H' j=H j)->PC P W n c (F.put (some s) (.sl k (xs.map rep))) H' Q):PC P W n c F H Q:=λV a w Q' hr hQ=>by
 obtain⟨H',h1,h2⟩:=wck hr hs ho (xs.map rep) rfl (λy hy=>by obtain⟨z,_,rfl⟩:=wef.1 hy;exact hk z) (by simp);exact h H' h1 V a w Q' h2 hQ
end
end Go.Proofs.YtdllbdlnmjngcaaGreat
namespace Go.Proofs.YtdllbdlnmjngcaaGreat.L
set_option maxRecDepth 100000
set_option maxHeartbeats 8000000
set_option linter.unusedVariables false
set_option linter.unusedSimpArgs false
open Go
abbrev G(α:Type):=Nat->Option α
def G.pure{α:Type}(a:α):G α:=λ_=>some a
def G.lift{α:Type}(o:Option α):G α:=λ_=>o
def G.bind{α β:Type}(m:G α)(f:α->G β):G β:=λn=>(m n).bind λa=>f a n
def G.cond{α:Type}(b:Bool)(x y:G α):G α:=λn=>match b with|true=>x n|false=>y n
def zcj{σ α:Type}(B:σ->Option (σ ⊕ α)):Nat->σ->Option α
 |0,_=>none
 |k+1,s=>match B s with
  |none=>none
  |some (.inl s')=>zcj B k s'
  |some (.inr a)=>some a
def G.loop{σ α:Type}(body:σ->G (σ ⊕ α))(s:σ):G α:=λn=>zcj (λs=>body s n) n s
theorem wby{α β:Type}{m:G α}{f:α->G β}{n:Nat}{r:β}(h:G.bind m f n=some r):∃a,m n=some a/\f a n=some r:=by
 unfold G.bind at h;cases hm:m n with
 |none=>rw[hm]at h;cases h
 |some a=>rw[hm]at h;exact⟨a,rfl,h⟩
theorem wcp{α:Type}{a r:α}{n:Nat}(h:G.pure a n=some r):a=r:=by cases h;rfl
theorem wcq{α:Type}{b:Bool}{x y:G α}{n:Nat}{r:α}(h:G.cond b x y n=some r):(b=true/\x n=some r)\/(b=false/\y n=some r):=by
 cases b
 ·exact .inr ⟨rfl,h⟩
 ·exact .inl ⟨rfl,h⟩
theorem wa1{σ α:Type}{body:σ->G (σ ⊕ α)}{s:σ}{n:Nat}{r:α}(h:G.loop body s n=some r):∃B:σ->Option (σ ⊕ α),(∀s,B s=body s n)/\zcj B n s=some r:=⟨_,λ_=>rfl,h⟩
theorem Zq{σ α:Type}{B:σ->Option (σ ⊕ α)}{k:Nat}{s:σ}{r:α}(h:zcj B k s=some r):∃k',k=k'+1/\∃x,B s=some x/\(match x with|.inl s'=>zcj B k' s'=some r|.inr a=>a=r):=by
 cases k with
 |zero=>cases h
 |succ k=>
  refine⟨k,rfl,?_⟩;rw[zcj]at h;cases hb:B s with
  |none=>rw[hb]at h;cases h
  |some x=>
   rw[hb]at h;refine⟨x,rfl,?_⟩;cases x with
   |inl s'=>exact h
   |inr a=>cases h;rfl
def Tot{α:Type}(x:G α)(Q:α->Prop):Prop:=∃a N,(∀n,N<=n->x n=some a)/\Q a
theorem Tot.mono{α:Type}{x:G α}{Q Q':α->Prop}(h:Tot x Q)(hq:∀a,Q a->Q' a):Tot x Q':=by
 obtain⟨a,N,h1,h2⟩:=h;exact⟨a,N,h1,hq a h2⟩
theorem Tot.pure{α:Type}{a:α}{Q:α->Prop}(h:Q a):Tot (G.pure a) Q:=⟨a,0,λ_ _=>rfl,h⟩
theorem Tot.lift{α:Type}{o:Option α}{a:α}{Q:α->Prop}(ho:o=some a)(h:Q a):Tot (G.lift o) Q:=⟨a,0,λ_ _=>ho,h⟩
theorem Tot.bind{α β:Type}{m:G α}{f:α->G β}{Q:β->Prop}(h:Tot m λa=>Tot (f a) Q):Tot (G.bind m f) Q:=by
 obtain⟨a,N,h1,b,M,h2,hq⟩:=h;refine⟨b,max N M,λn hn=>?_,hq⟩;unfold G.bind;rw[h1 n (by omega)];exact h2 n (by omega)
theorem wbm{α β:Type}{m:G α}{f:α->G β}{Q:β->Prop}{a:α}(hm:Tot m (· = a))(h:Tot (f a) Q):Tot (G.bind m f) Q :=.bind (hm.mono λb hb=>hb▸h)
theorem Tot.cond{α:Type}{b:Bool}{x y:G α}{Q:α->Prop}(h1:b=true->Tot x Q)(h2:b=false->Tot y Q):Tot (G.cond b x y) Q:=by
 cases b
 ·exact h2 rfl
 ·exact h1 rfl
theorem Tot.loop{σ α:Type}{body:σ->G (σ ⊕ α)}{Q:α->Prop}(J:σ->Prop)(μ:σ->Nat)
  (h:∀s,J s->Tot (body s) λr=>match r with|.inl s'=>J s'/\μ s'<μ s|.inr a=>Q a){s:σ}(h0:J s):Tot (G.loop body s) Q:=by
 have key:∀(m:Nat)(s:σ),μ s<m->J s->∃a N,(∀n,N<=n->∀k,N<=k->zcj (λs=>body s n) k s=some a)/\Q a:=by
  intro m;induction m with
  |zero=>intro s h;omega
  |succ m ih=>
   intro s hm hJ;obtain⟨r,N,h1,h2⟩:=h s hJ;cases r with
   |inl s'=>
    obtain⟨a,M,h3,h4⟩:=ih s' (by omega) h2.1;refine⟨a,max N (M+1),λn hn k hk=>?_,h4⟩;obtain⟨k,rfl⟩:∃k',k=k'+1:=⟨k-1,by omega⟩
    rw[zcj,h1 n (by omega)];exact h3 n (by omega) k (by omega)
   |inr a=>
    refine⟨a,max N 1,λn hn k hk=>?_,h2⟩;obtain⟨k,rfl⟩:∃k',k=k'+1:=⟨k-1,by omega⟩
    rw[zcj,h1 n (by omega)]
 obtain⟨a,N,h1,h2⟩:=key (μ s+1) s (by omega) h0;exact⟨a,N,λn hn=>h1 n hn n hn,h2⟩
def w64(z:Int):Int:=IntKind.i64.wrap z
theorem w64_of{z:Int}(h1 : -9223372036854775808<=z)(h2:z<=9223372036854775807):w64 z=z:=zea h1 h2
def idx{α:Type}(l:List α)(z:Int):Option α:=if 0<=z then l[z.toNat]? else none
theorem Vt{α:Type}{l:List α}{z:Int}{x:α}(h:idx l z=some x):0<=z/\l[z.toNat]?=some x:=by
 unfold idx at h;split at h
 ·exact⟨by assumption,h⟩
 ·cases h
theorem jee{α:Type}{l:List α}{k:Nat}{x:α}(h:l[k]?=some x):idx l (k:Int)=some x:=by unfold idx;simp[h]
open Go Go.RowKit
def gv(c:Bool)(p:PV):PV:=match c with|true=>p|false => .u undef
section
variable{P:Program}{W:Env}{n:Nat}{H:PHeap}{F:PFrame}{ops:Array Oper}{o:Oper}{l:List Oper}
theorem Y6{d:Nat}{op:Op}{ty:Nat}{pos:String}{af:Array Edge}{g:Option (Nat×Bool)}(h:d<n):jo n ⟨some d,op,ty,pos,af,g⟩:=λt ht=>by cases ht;exact h
theorem PL.q{K:PFrame->PHeap->Prop}{p:PV}(hg:o.guard=none)(hd:jo n o)(hp:jr P H F o=some p)(h:PL P W n ops l (F.put o.dst p) H K):PL P W n ops (o::l) F H K:=
 PL.cons (by unfold qb;rw[hg]) (wak hd (jh hp) h)
theorem QF.q{Q:PFrame->Prop}{p:PV}(hg:o.guard=none)(hd:jo n o)(hp:jr P H F o=some p)(h:Qf P W n ops H Q l (F.put o.dst p)):Qf P W n ops H Q (o::l) F:=
 ⟨hd,.inl ⟨by unfold qb;rw[hg],p,jh hp,h⟩⟩
theorem PL.qq{K:PFrame->PHeap->Prop}{p:PV}(hg:o.guard=none)(hd:jo n o)(hp:PQ P W o F H p)(h:PL P W n ops l (F.put o.dst p) H K):PL P W n ops (o::l) F H K:=
 PL.cons (by unfold qb;rw[hg]) (wak hd hp h)
theorem QF.qq{Q:PFrame->Prop}{p:PV}(hg:o.guard=none)(hd:jo n o)(hp:PQ P W o F H p)(h:Qf P W n ops H Q l (F.put o.dst p)):Qf P W n ops H Q (o::l) F:=
 ⟨hd,.inl ⟨by unfold qb;rw[hg],p,hp,h⟩⟩
theorem wdl{Q:Exit->PFrame->PHeap->Prop}{c:Operand}{x y:Code}{b:Bool}(hc:evP F c=.u (.bool b))(hb:b=true)(h:PC P W n x F H Q):PC P W n (.cond c x y) F H Q:=wah (by rw[hc,hb]) h
theorem wdm{Q:Exit->PFrame->PHeap->Prop}{c:Operand}{x y:Code}{b:Bool}(hc:evP F c=.u (.bool b))(hb:b=false)(h:PC P W n y F H Q):PC P W n (.cond c x y) F H Q:=wag (by rw[hc,hb]) h
def jeq(Q:Exit->PFrame->PHeap->Prop):Exit->PFrame->PHeap->Prop
 |.goto _,_,_=>False
 |e,F,H=>Q e F H
theorem PC.scope{c:Code}{Q:Exit->PFrame->PHeap->Prop}(h:PC P W n c F H (jeq Q)):PC P W n (.scope c) F H Q:=λV a w Q' hr hQ=>
 wp_scope_straight (h V a w _ hr λe F' H' V' a' w' hq hr'=>by
  cases e<;>first|exact hQ _ _ _ _ _ _ hq hr'|exact hq.elim)
theorem PC.label{i:Nat}{Q:Exit->PFrame->PHeap->Prop}(h:Q .normal F H):PC P W n (.label i) F H Q:=λV a w Q' hr hQ=>wp_label (hQ _ _ _ _ _ _ h hr)
theorem am0:([]:List Operand).map (evP F)=[]:=rfl
theorem am{x:Operand}{xs:List Operand}{p:PV}{ps:List PV}(h:evP F x=p)(hs:xs.map (evP F)=ps):(x::xs).map (evP F)=p::ps:=by rw[wen,h,hs]
theorem zf3:∀p∈([]:List PV),NoP p:=λp h=>by cases h
theorem zdk{p:PV}{ps:List PV}(h:NoP p)(hs:∀p∈ps,NoP p):∀q∈p::ps,NoP q:=λq hq=>by
 rcases wep.1 hq with e|hq
 ·rw[e];exact h
 ·exact hs q hq
theorem wbz{ps:List PV}(h:∀p∈ps,NoP p):ViewL PHeap.empty ps ps:=⟨rfl,λi p q h1 h2=>by
 rw[h1]at h2;cases h2;exact View.noP (h p (wd7 h1))⟩
theorem zu5{f:FuncId}{d:Option Nat}{args:Array Operand}{ts:Array TypeId}{ty:Nat}{pos:String}{af:Array Edge}{g:Option (Nat×Bool)}{qs:List PV}{p0:PV}(hf:yx P f=true)(ha:args.toList.map (evP F)=qs)(hn:∀p∈qs,NoP p)(hc:PCall P f qs (· = p0)):PQ P W ⟨d,.call ⟨.value (.func f),args,ts⟩,ty,pos,af,g⟩ F H p0:=
 wbv rfl (by rw[Yg,ha]) hf (wbz hn) hn hc
theorem callv{f:FuncId}{x:Operand}{A B:List PV}{d:Option Nat}{args:Array Operand}{ts:Array TypeId}{ty:Nat}{pos:String}{af:Array Edge}{g:Option (Nat×Bool)}{qs:List PV}{p0:PV}(hx:evP F x=.fn (.func f) A B)(hf:yx P f=true)(ha:args.toList.map (evP F)=qs)(hn:∀p∈A++qs++B,NoP p)(hc:PCall P f (A++qs++B) (· = p0)):PQ P W ⟨d,.call ⟨.value x,args,ts⟩,ty,pos,af,g⟩ F H p0:=
 wbv rfl (by simp only[yr,hx,ha]) hf (wbz hn) hn hc
theorem zcp{fn:Func}{s:Nat}{p:PV}(hr:fn.results = #[.tmp s])(h:F s=p):Qi P fn F H=some p:=by
 unfold Qi;rw[hr];simp[z6,h]
end
section
variable{P:Program}{H:PHeap}{F:PFrame}{d ty:Nat}{pos:String}{af:Array Edge}{g:Option (Nat × Bool)}{x y:Operand}{t t' : Nat}{k:IntKind}{a b:Int}
theorem z4u{p:PV}(hx:evP F x=p):jr P H F ⟨some d,.move x,ty,pos,af,g⟩=some p:=congrArg some hx
theorem Qn{p:PV}(hx:evP F x=p):jr P H F ⟨some d,.assign x,ty,pos,af,g⟩=some p:=congrArg some hx
def zgf(P:Program)(t:Nat):Operand->Bool
 |.const (.slice none 0 0)=>false
 |.const (.pointer none)=>false
 |_=>true
theorem zek{op:BinOp}(hy:zgf P t y=true):zwz P H F op t x y=yg P op t x y (evP F x) (evP F y):=by
 unfold zwz;split
 ·simp[zgf]at hy
 ·simp[zgf]at hy
 ·rfl
theorem Ze{op:BinOp}{p q r:PV}(hy:zgf P t y=true)(h1:evP F x=p)(h2:evP F y=q)(h:yg P op t x y p q=some r):jr P H F ⟨some d,.binOp op t x y t',ty,pos,af,g⟩=some r:=by
 rw[z1e,zek hy,h1,h2,h]
theorem zqg:yg P .add t x y (.u (.int .i64 a)) (.u (.int .i64 b))=some (.u (.int .i64 (w64 (a+b)))):=zlu
theorem b_eqB(p q:Bool)(ht:P.underlying t=some .bool):yg P .eql t x y (.u (.bool p)) (.u (.bool q))=some (.u (.bool (p == q))):=by
 have he:(Op.equal t (.bool p) (.bool q)).val P=some (p == q):=by
  unfold Op.equal Op.maxDepth Op.equalIn underlying;simp only[qi,program,Sem.val,ht,Option.bind,qk]
 simp[yg,PV.val2,eqGuard,binOp,qi,qk,zpc,he,ofV]
theorem b_neB(p q:Bool)(ht:P.underlying t=some .bool):yg P .neq t x y (.u (.bool p)) (.u (.bool q))=some (.u (.bool (p != q))):=by
 have he:(Op.equal t (.bool p) (.bool q)).val P=some (p == q):=by
  unfold Op.equal Op.maxDepth Op.equalIn underlying;simp only[qi,program,Sem.val,ht,Option.bind,qk]
 simp[yg,PV.val2,eqGuard,binOp,qi,qk,zpc,he,ofV,bne]
theorem z1y{p:Bool}(hx:evP F x=.u (.bool p)):jr P H F ⟨some d,.unOp .not t x,ty,pos,af,g⟩=some (.u (.bool (!p))):=by rw[z1v,hx,z5b]
theorem zgr{α:Type}{kk:Nat}{rep:α->PV}{xs:List α}(ht:y7 P t=true)(hx:evP F x=.sl kk (xs.map rep)):jr P H F ⟨some d,.call { callee :=.builtin .len,args:=#[x],argTypes:=#[t] },ty,pos,af,g⟩=some (.u (.int .i64 xs.length)):=by
 rw[zu1,hx,jer _ ht,wey]
theorem jen{e kk id m:Nat}{q:PV}{cs:List PV}(ht:y7 P t=true)(ho:OwnS H e kk id q m cs)(hx:evP F x=q):jr P H F ⟨some d,.call { callee :=.builtin .len,args:=#[x],argTypes:=#[t] },ty,pos,af,g⟩=some (.u (.int .i64 m)):=by
 rw[zu1,hx,ho.len ht]
theorem zff{α:Type}{kk:Nat}{rep:α->PV}{xs:List α}{kd:IntKind}{z:Int}{v:α}(he:esz P t=some kk)(hx:evP F x=.sl kk (xs.map rep))(hy:evP F y=.u (.int kd z))(hv:idx xs z=some v):jr P H F ⟨some d,.indexAddr t x y,ty,pos,af,g⟩=some (.rp (rep v).cells):=by
 obtain⟨h0,h1⟩:=Vt hv;rw[zau,hx,hy,ztc he _ _ h0,web,h1];rfl
theorem zf0{p:PV}{cs:List PV}(ht:asz P t=some (false,1))(hx:evP F x=.rp (p::cs)):jr P H F ⟨some d,.load t x,ty,pos,af,g⟩=some p:=by
 rw[V9,hx,zh9,ht];rfl
theorem zyc{kk:Nat}{cs:List PV}(ht:asz P t=some (true,kk))(hx:evP F x=.rp cs)(hl:cs.length=kk):jr P H F ⟨some d,.load t x,ty,pos,af,g⟩=some (.agg cs):=by
 rw[V9,hx,zh9,ht];show qw true kk cs=_;rw[zrs _ _ (by omega),wfs (by omega)]
theorem jat{id off v T kk:Nat}{ag:Bool}{cs:List PV}{p:PV}(ht:asz P t=some (ag,kk))(hx:evP F x=.pp id off v)(hb:H id=⟨v,some (.box T cs)⟩)(hp:qw ag kk (cs.drop off)=some p):jr P H F ⟨some d,.load t x,ty,pos,af,g⟩=some p:=by
 rw[V9,hx,zcf,ht];show(jl H id v).elim none _=_;rw[J6,hb,z39,if_pos rfl];exact hp
theorem zpy{off kk fi ft:Nat}{ag:Bool}{cs:List PV}(hf:fof P t fi=some (off,ft))(ht:asz P ft=some (ag,kk))(hk:kk≠0)(hx:evP F x=.rp cs):jr P H F ⟨some d,.fieldAddr t x fi,ty,pos,af,g⟩=some (.rp (cs.drop off)):=by
 rw[zo2,hx,zsw,hf];show(asz P ft).elim none _=_;rw[ht];show(if kk=0 then none else _)=_;rw[if_neg hk]
theorem z9i{f:Fn}{A B:Array Operand}{ps qs:List PV}(hA:A.toList.map (evP F)=ps)(hB:B.toList.map (evP F)=qs):jr P H F ⟨some d,.makeFunc f A B,ty,pos,af,g⟩=some (.fn f ps qs):=by rw[zr7,hA,hB]
end
end Go.Proofs.YtdllbdlnmjngcaaGreat.L
namespace Go.Proofs.YtdllbdlnmjngcaaGreat
set_option maxRecDepth 100000
set_option maxHeartbeats 8000000
set_option linter.unusedVariables false
set_option linter.unusedSimpArgs false
open Go Go.RowKit L
abbrev Arr(n:Nat)(α:Type):={l:List α // l.length=n}
def arV{α:Type}{n:Nat}(rep:α->PV)(a:Arr n α):PV :=.agg (a.1.map rep)
theorem jdo{α:Type}{n:Nat}{rep:α->PV}(a:Arr n α)(h:∀x,NoP (rep x)):NoP (arV rep a) :=.agg _ λc hc=>by obtain⟨z,_,rfl⟩:=wef.1 hc;exact h z
theorem zxn{α:Type}{n:Nat}(rep:α->PV)(a:Arr n α)(h:∀x,(rep x).cells=[rep x]):(arV rep a).cells.length=n:=by simp[arV,PV.cells,a.2]
theorem nopa{ps qs:List PV}(hp:∀p∈ps,NoP p)(hq:∀p∈qs,NoP p):∀p∈ps++qs,NoP p:=λp h=>(wej.1 h).elim (hp p) (hq p)
theorem zbt{p:PV}(h:NoP p):∀c∈p.cells,NoP c:=λc hc=>h.cell hc
theorem lf1{α:Type}{rep:α->PV}{H:PHeap}(h:∀x,(rep x).cells=[rep x])(h2:∀x,qh H (rep x)=true):∀x,∀c∈(rep x).cells,qh H c=true:=λx c hc=>by rw[h x]at hc;simp at hc;subst hc;exact h2 x
theorem arV_lf{α:Type}{n:Nat}(H:PHeap)(rep:α->PV)(a:Arr n α)(h:∀x,qh H (rep x)=true):(arV rep a).cells.all (qh H)=true:=by simp[arV,PV.cells,h]
theorem jdn{A L:List PV}{m k:Nat}(h:A.length=m)(h2:L.length=k):(PV.agg (A++L)).cells.length=m+k:=by simp[PV.cells,h,h2]
theorem jdz{A L:List PV}{f:PV->Bool}(h:A.all f=true)(h2:L.all f=true):(PV.agg (A++L)).cells.all f=true:=by simp only[PV.cells,List.all_append,h,h2];rfl
theorem ld_r{A L:List PV}{m i:Nat}{ag:Bool}{k:Nat}{p:PV}(h:A.length=m)(hp:qw ag k (L.drop i)=some p):qw ag k ((A++L).drop (m+i))=some p:=by
 subst h;rw[List.drop_append,List.drop_of_length_le (by omega),wfx];simpa using hp
def app{α:Type}(b:Nat)(xs ys:List α):Option (List α):=if(xs.length+ys.length)*b<=140737488355328/\xs.length+ys.length<=maxLen then some (xs++ys)else none
theorem zrr{α:Type}{b:Nat}{xs ys zs:List α}(h:app b xs ys=some zs):xs.length+ys.length<=maxLen/\(xs.length+ys.length)*b<=140737488355328/\zs=xs++ys:=by
 unfold app at h;split at h
 ·rename_i hc;cases h;exact⟨hc.2,hc.1,rfl⟩
 ·cases h
theorem z13{α:Type}{b:Nat}{xs ys:List α}(h:(xs.length+ys.length)*b<=140737488355328)(h2:xs.length+ys.length<=140737488355328):app b xs ys=some (xs++ys):=by
 unfold app;rw[if_pos ⟨h,wfn h2 (by decide)⟩]
def mkS{α:Type}(b:Nat)(z:α)(n:Int):Option (List α):=if 0<=n/\b*n.toNat<=281474976710656/\n.toNat<=maxLen then some (List.replicate n.toNat z)else none
theorem mkS_of{α:Type}{b n:Nat}{z:α}(h:b*n<=281474976710656)(h2:n<=281474976710656):mkS b z (n:Int)=some (List.replicate n z):=by
 unfold mkS;rw[if_pos ⟨by omega,by simpa using h,wfn (by simpa using h2) (by decide)⟩];simp
def z76{α:Type}(xs:List α)(lo hi:Int):Option (List α):=if 0<=lo/\0<=hi/\lo.toNat<=hi.toNat/\hi.toNat<=xs.length then some ((xs.take hi.toNat).drop lo.toNat)else none
def za5:PV->Nat
 |.ps _ v=>v
 |_=>0
section
variable{P:Program}{W:Env}{n:Nat}{H:PHeap}{F:PFrame}{ops:Array Oper}{o:Oper}{l:List Oper}{K:PFrame → PHeap → Prop}
variable{d ty:Nat}{pos:String}{af:Array Edge}{g:Option (Nat × Bool)}{x y:Operand}{t t' : Nat}
theorem PQ.nil{o:Oper}{k:Nat}(h:o.op=.move (.const (.slice none 0 0))\/o.op=.assign (.const (.slice none 0 0))):PQ P W o F H (.sl k []):=
 wae λV a w hr hh=>⟨.slice none 0 0,by rcases h with h|h<;>simp[execOp,h]<;>rfl,.nil _ _ _⟩
theorem zln{k:Nat}:PQ P W ⟨some d,.assign (.const (.slice none 0 0)),ty,pos,af,g⟩ F H (.sl k []):=PQ.nil (.inr rfl)
theorem PQ.boxR{o:Oper}{v:PV}(ho:o.op=.box t x)(hv:evP F x=v)(hok:okC H v=true):PQ P W o F H (.rp v.cells):=λV a w hr hx=>by
 subst hv;have hrv:=Rp.eval (P:=P) (F:=F) (a:=a) (Z:=W.Z) (H:=H) (V:=V) (w:=w) x λt ht=>hx t (by rw[ho,ht];simp[Op.operands]);obtain⟨hR,h1⟩:=hrv.cells hr hok;have hex:(execOp a.eval o).run P w=.ok (.value (.pointer (some ⟨w.heap.size,0,none⟩))) (w.alloc (.cells (a.eval x).cells t)):=by
  simp only[execOp,ho];simp[Instr.box,newVar,newRow]
 have hb:Below w.heap.size w (w.alloc (.cells (a.eval x).cells t)):=(Below.refl _ _).alloc (weh _) _;refine yh hex ⟨_,rfl,?_,hb⟩;have hlen:=hR.1;refine Rp.rp _ w.heap.size 0 (λi=>((a.eval x).cells[i]?).getD undef) (λhz=>?_) (by simp) (λi p hi=>?_) (λi p hi=>?_)
 ·rcases hz with hz|⟨id,h3,h4⟩
  ·have:=wbe hr _ hz;omega
  ·have:=(hr.own_lt h3 h4).2;omega
 ·have hlt:=(wd5.1 hi).1;have hia:i<(a.eval x).cells.size:=by simpa [hlen]using hlt
  rw[wfa];simp only[World.cell?];rw[heap_alloc_new];simp[hia]
 ·have hlt:=(wd5.1 hi).1;have hia:i<(a.eval x).cells.size:=by simpa [hlen]using hlt
  have:((a.eval x).cells[i]?).getD undef=(a.eval x).cells[i]:=by simp[hia]
  rw[this];exact(hR.2 i p _ hi (by simp[hia])).grow hb
theorem z8m{v:PV}{T:Nat}(hv:evP F x=v)(hok:okC H v=true):PQ P W ⟨some d,.box T x,ty,pos,af,g⟩ F H (.rp v.cells):=PQ.boxR rfl hv hok
theorem z7w{α:Type}{xs ys:List α}{lo hi:Int}(h:z76 xs lo hi=some ys):(0<=lo/\0<=hi/\lo.toNat<=hi.toNat/\hi.toNat<=xs.length)/\ys=(xs.take hi.toNat).drop lo.toNat:=by
 unfold z76 at h;split at h
 ·rename_i hc;cases h;exact⟨hc,rfl⟩
 ·cases h
theorem bm0:([]:List (Nat×Operand)).map (λx=>(x.1,evP F x.2))=[]:=rfl
theorem bm{i:Nat}{x:Operand}{xs:List (Nat×Operand)}{p:PV}{ps:List (Nat×PV)}(h:evP F x=p)(hs:xs.map (λx=>(x.1,evP F x.2))=ps):((i,x)::xs).map (λx=>(x.1,evP F x.2))=(i,p)::ps:=by rw[wen,hs];simp only[h]
theorem rm{s:Nat}{ss:List Nat}{p:PV}{ps:List PV}(h:F s=p)(hs:ss.map F=ps):(s::ss).map F=p::ps:=by rw[wen,h,hs]
theorem z1j{α:Type}{rep:α->PV}{xs:List α}{e k b len:Nat}{z:Value}{ps:Array (Nat×Operand)}{ips:List (Nat×PV)}(ht:yq P t=some (e,k,b,z))(hz:z.cells.toList.all Value.oneCell'=true)(hbig:len*k<=16777216)(hp:ps.toList.map (λx=>(x.1,evP F x.2))=ips)(hlit:zal H k len ips=true)(hc:ips.map (·.2)=xs.map rep):PQ P W ⟨some d,.buildSlice t len ps,ty,pos,af,g⟩ F H (.sl k (xs.map rep)):=by
 subst hp;have:=PQ.buildSlice (W:=W) (F:=F) (H:=H) (o:=⟨some d,.buildSlice t len ps,ty,pos,af,g⟩) rfl ht hz hbig hlit;rw[wff]at hc;rw[<- hc];exact this
theorem ownL.at{α:Type}{e k id:Nat}{rep:α->PV}{q:PV}{xs:List α}{z:Int}{v:α}(h:ownL e k rep H id q xs)(hv:idx xs z=some v):q=.ps id (za5 q)/\H id=⟨za5 q,some (.row e k xs.length ((xs.map rep).flatMap PV.cells))⟩:=by
 obtain⟨h0,h1⟩:=Vt hv;obtain⟨hlt,_⟩:=wd5.1 h1;obtain⟨ver,rfl,hH⟩:=wbp h (by omega);exact⟨rfl,hH⟩
theorem zjl{cs:List PV}{ag:Bool}{kk:Nat}{p:PV}(ht:asz P t=some (ag,kk))(hx:evP F x=.rp cs)(hp:qw ag kk cs=some p):jr P H F ⟨some d,.load t x,ty,pos,af,g⟩=some p:=by
 rw[V9,hx,zh9,ht];exact hp
theorem zpj{α:Type}{e kk id:Nat}{rep:α->PV}{q:PV}{xs:List α}{kd:IntKind}{z:Int}{v:α}(he:esz P t=some kk)(ho:ownL e kk rep H id q xs)(hx:evP F x=q)(hy:evP F y=.u (.int kd z))(hv:idx xs z=some v):jr P H F ⟨some d,.indexAddr t x y,ty,pos,af,g⟩=some (.pp id (z.toNat*kk) (za5 q)):=by
 obtain⟨hq,hH⟩:=ho.at hv;obtain⟨h0,h1⟩:=Vt hv;obtain⟨hlt,_⟩:=wd5.1 h1;rw[zau,hx,hy];generalize hw:za5 q=w at *;rw[hq,zh2 _ _ h0,zaj,hH,zjc,if_pos rfl];show(if esz P t=some kk/\z.toNat<xs.length then _ else none)=_;rw[if_pos ⟨he,hlt⟩]
theorem zaq{α:Type}{rep:α->PV}(h:∀x,(rep x).cells=[rep x])(xs:List α):(xs.map rep).flatMap PV.cells=xs.map rep:=cells1 h xs
theorem st_ldO{α:Type}{e id:Nat}{rep:α->PV}{q:PV}{xs:List α}{z:Int}{v:α}(ht:asz P t=some (false,1))(hx:evP F x=.pp id (z.toNat*1) (za5 q))(ho:ownL e 1 rep H id q xs)(hv:idx xs z=some v)(h1:∀x,(rep x).cells=[rep x]:=by exact λ_=>rfl):jr P H F ⟨some d,.load t x,ty,pos,af,g⟩=some (rep v):=by
 obtain⟨hq,hH⟩:=ho.at hv;obtain⟨h0,hz⟩:=Vt hv;rw[V9,hx,zcf,ht];show(jl H id (za5 q)).elim none _=_;rw[J6,hH,zpf,if_pos rfl];show qw false 1 _=_;rw[zgc,zaq h1,we5,web];simp[hz]
theorem wdy{α:Type}{e id:Nat}{rep:α->PV}{q:PV}{xs:List α}{z:Int}{u v:α}(hg:o.guard=none)(ho:o.op=.store t x y)(hd:jo n o)(hx:evP F x=.pp id (z.toNat*1) (za5 q))(hr:ownL e 1 rep H id q xs)(ht:asz P t=some (false,1))(hv:idx xs z=some u)(hy:evP F y=rep v)(hk:∀x,(rep x).cells=[rep x])
  (h:∀H',ownL e 1 rep H' id q (xs.set z.toNat v)->(∀j,j≠id->H' j=H j)->PL P W n ops l (F.put o.dst (.u undef)) H' K) (hok:okC H (rep v)=true:=by rfl):PL P W n ops (o::l) F H K:=by
 obtain⟨hq,hH⟩:=hr.at hv;obtain⟨h0,hz⟩:=Vt hv;obtain⟨hlt,_⟩:=wd5.1 hz;refine wa5 (cs':=(xs.set z.toNat v).map rep) hg ho hd hx hH ht hy hok (hk v) rfl (by rw[zaq hk];simp;omega) ?_ λH' b1 o1=>h H' ?_ o1
 ·rw[zaq hk,wgu];simp only[setMany,wez];apply wfj;intro i;have:=za (xs.map rep) [rep v] z.toNat (by simp;omega) i;unfold setMany at this;simp only[wez]at this;rw[this,web (f:=rep) (l:=xs.set z.toNat v),wev];by_cases e:z.toNat=i
  ·subst e;simp[hlt]
  ·rw[if_neg (by omega),if_neg e,web]
 ·unfold ownL;have:=OwnS.row (k:=1) b1 (by simp);rw[zaq hk,wfz];rw[hq];exact this
theorem wdh{α:Type}{rep:α->PV}{e k b d id:Nat}{z:Value}{q:PV}{xs ys zs:List α}(hg:o.guard=none)(ho:o.op=.call { callee :=.builtin .append,args:=#[x,y],argTypes:=#[t,t] })(hd:o.dst=some d)(hdn:d<n)(ht:yq P t=some (e,k,b,z))
  (hs:evP F x=q) (hr:ownL e k rep H id q xs) (hp:evP F y=.sl k (ys.map rep)) (hk:∀x,(rep x).cells.length=k) (hleaf:∀x,∀c∈(rep x).cells,qh H c=true) (hz:app b xs ys=some zs)
  (h:∀q' H',ownL e k rep H' id q' zs->(∀j,j≠id->H' j=H j)->PL P W n ops l (F.put (some d) q') H' K):PL P W n ops (o::l) F H K:=by
 obtain⟨h1,h2,rfl⟩:=zrr hz;exact wb3 hg ho hd hdn ht hs hr hp hk hleaf h1 h2 h
theorem zkx{α:Type}{rep:α->PV}(hk:∀x,(rep x).cells=[rep x])(m:Nat)(z:α):((List.replicate m z).map rep).flatMap PV.cells=List.replicate m (rep z):=by rw[zaq hk,List.map_replicate]
theorem PL.mkS{α:Type}{rep:α->PV}{e b d:Nat}{zv:Value}{z:α}{xs:List α}{k:IntKind}{m:Int}(id:Nat)(hg:o.guard=none)(ho:o.op=.makeSlice t x x)(hd:o.dst=some d)(hdn:d<n)(ht:yq P t=some (e,1,b,zv))(h1z:zv.oneCell'=true)(hrep:rep z=.u zv)(hx:evP F x=.u (.int k m))(hz:mkS b z m=some xs)
  (h:∀q' H',ownL e 1 rep H' id q' xs->(∀j,j≠id->H' j=H j)->PL P W n ops l (F.put (some d) q') H' K) (hk:∀x,(rep x).cells=[rep x]:=by exact λ_=>rfl):PL P W n ops (o::l) F H K:=by
 unfold Proofs.YtdllbdlnmjngcaaGreat.mkS at hz;split at hz
 ·rename_i hc;cases hz;have hm:m=((m.toNat:Nat):Int):=by omega
  rw[hm]at hx;refine wa4 id hg ho hd hdn ht h1z hx hx hc.2.2 hc.2.1 λver H' b1 o1=>h _ H' ?_ o1;unfold ownL;rw[zkx hk,hrep,wd6];exact OwnS.row (k:=1) b1 (by simp)
 ·cases hz
end
section
variable{P:Program}{W:Env}{n:Nat}{H:PHeap}{F:PFrame}{ops:Array Oper}{o:Oper}{l:List Oper}{K:PFrame → PHeap → Prop}
variable{d ty:Nat}{pos:String}{af:Array Edge}{g:Option (Nat × Bool)}{x y:Operand}{t t' : Nat}
def ownQ'{α:Type}(e k:Nat)(rep:α->PV)(H:PHeap)(id:Nat)(q:PV)(xs:List α):Prop:=
 ∃off ver pre,q=.qs id off k ver/\pre.length=off/\H id=⟨ver,some (.row e k (off+xs.length) (((pre++xs).map rep).flatMap PV.cells))⟩
theorem ownQ'.mono{α:Type}{e k id:Nat}{rep:α->PV}{H':PHeap}{q:PV}{xs:List α}(h:ownQ' e k rep H id q xs)(he:H' id=H id):ownQ' e k rep H' id q xs:=by
 obtain⟨off,ver,pre,h1,h2,h3⟩:=h;exact⟨off,ver,pre,h1,h2,he.trans h3⟩
theorem wa8{V:Nat->Value}{w:World}(hr:HRel P W H V w){id ver e k m:Nat}{cs:List PV}(hH:H id=⟨ver,some (.row e k m cs)⟩):
  (m=0/\V id=.slice none 0 0)\/∃b cap cur,V id=.slice (some ⟨b,0,none⟩) m cap/\W.w.heap.size<=b/\w.heap[b]?=some (.cells cur e (0,0))/\m<=cap/\cap<=maxLen/\cur.size=cap*k:=by
 obtain⟨vals,ho,_⟩:=hr.row id e k m cs (by rw[hH]);rcases ho.2 with⟨e1,h0⟩|⟨b,cap,cur,e1,h1,h2,h3,h4,h5,_⟩
 ·exact .inl ⟨h0,e1⟩
 ·exact .inr ⟨b,cap,cur,e1,h1,h2,h3,h4,h5⟩
theorem wbs{lo:Operand}{id ver e k m:Nat}{kd:IntKind}{z:Int}{cs:List PV}{o:Oper}(ho:o.op=.slice t x (some lo) none none)(ht:esz P t=some k)(hx:evP F x=.ps id ver)(hH:H id=⟨ver,some (.row e k m cs)⟩)(hy:evP F lo=.u (.int kd z))(h0:0<=z)(hz:z.toNat<=m):PQ P W o F H (.qs id z.toNat k ver):=
 wae λV a w hr hh=>by
  obtain⟨e',ti,hu,hti,rfl⟩:=zac ht;have hxv:=hh x (by rw[ho];simp[Op.operands]);have hyv:=hh lo (by rw[ho];simp[Op.operands]);rw[hx]at hxv;rw[hy]at hyv;have e1:a.eval x=V id:=by
   generalize a.eval x=q at hxv;cases hxv with
   |ps _ _ _ hvv hq=>exact hq (by rw[hH];rfl) (by rw[hH])
  have e2:a.eval lo=.int kd z:=by generalize a.eval lo=q at hyv;cases hyv;rfl
  rcases wa8 hr hH with⟨rfl,hV⟩|⟨b,cap,cur,hV,_,_,hc,_,_⟩
  ·have hz0:z.toNat=0:=by omega
   have hbd:=yo (P:=P) (w:=w) (isS:=true) (len:=0) (cap:=0) (l:=0) (h:=0) (lo:=some (.int kd z)) (hi:=none) (.inr ⟨kd,z,rfl,h0,hz0⟩) (.inl ⟨rfl,rfl⟩) (weh _) (weh _);refine⟨.slice none 0 0,?_,?_⟩
   ·simp only[execOp,ho];simp[e1,e2,hV,Instr.sliceAt,Instr.slice,run_underlying hu,hbd,sizeOf,typeInfo,hti]
   ·rw[hz0];exact .qs id 0 _ ver _ (by rw[hH];exact weh _) λ_ _=>⟨none,0,0,none,hV,rfl,weh _,weh _,.inl ⟨rfl,rfl⟩⟩
  ·have hbd:=yo (P:=P) (w:=w) (isS:=true) (len:=m) (cap:=cap) (l:=z.toNat) (h:=m) (lo:=some (.int kd z)) (hi:=none) (.inr ⟨kd,z,rfl,h0,rfl⟩) (.inl ⟨rfl,rfl⟩) hz hc;by_cases hcz:cap=z.toNat
   ·refine⟨.slice (some ⟨b,0,none⟩) (m-z.toNat) (cap-z.toNat),?_,?_⟩
    ·simp only[execOp,ho];simp[e1,e2,hV,Instr.sliceAt,Instr.slice,run_underlying hu,hbd,sizeOf,typeInfo,hti];simp[hcz]
    ·exact .qs id _ _ ver _ (by rw[hH];exact weh _) λ_ _=>⟨_,m,cap,_,hV,rfl,hz,hc,.inr ⟨b,0,rfl,rfl,.inr hcz⟩⟩
   ·refine⟨.slice (some ⟨b,z.toNat*ti.size,none⟩) (m-z.toNat) (cap-z.toNat),?_,?_⟩
    ·simp only[execOp,ho];simp[e1,e2,hV,Instr.sliceAt,Instr.slice,run_underlying hu,hbd,sizeOf,typeInfo,hti,hcz,zq]
    ·exact .qs id _ _ ver _ (by rw[hH];exact weh _) λ_ _=>⟨_,m,cap,_,hV,rfl,hz,hc,.inr ⟨b,_,rfl,rfl,.inl rfl⟩⟩
theorem wb9{lo:Operand}{id off ver e k m:Nat}{kd:IntKind}{z:Int}{cs:List PV}{o:Oper}(ho:o.op=.slice t x (some lo) none none)(ht:esz P t=some k)(hx:evP F x=.qs id off k ver)(hH:H id=⟨ver,some (.row e k m cs)⟩)(hy:evP F lo=.u (.int kd z))(h0:0<=z)(hz:off+z.toNat<=m):PQ P W o F H (.qs id (off+z.toNat) k ver):=
 wae λV a w hr hh=>by
  obtain⟨e',ti,hu,hti,rfl⟩:=zac ht;have hxv:=hh x (by rw[ho];simp[Op.operands]);have hyv:=hh lo (by rw[ho];simp[Op.operands]);rw[hx]at hxv;rw[hy]at hyv;have e1:zpw off ti.size (V id) (a.eval x):=by
   generalize a.eval x=q at hxv;cases hxv with
   |qs _ _ _ _ _ hvv hq=>exact hq (by rw[hH];rfl) (by rw[hH])
  have e2:a.eval lo=.int kd z:=by generalize a.eval lo=q at hyv;cases hyv;rfl
  obtain⟨ad,mm,cap,ad',hV,hx1,hoff,hmc,hcase⟩:=e1;have hmm:mm=m:=by
   rcases wa8 hr hH with⟨rfl,hV2⟩|⟨b,cap2,cur,hV2,_⟩<;>rw[hV]at hV2<;>cases hV2<;>rfl
  subst hmm;have hbd:=yo (P:=P) (w:=w) (isS:=true) (len:=mm-off) (cap:=cap-off) (l:=z.toNat) (h:=mm-off) (lo:=some (.int kd z)) (hi:=none) (.inr ⟨kd,z,rfl,h0,rfl⟩) (.inl ⟨rfl,rfl⟩) (by omega) (by omega);refine⟨.slice (if cap-off=z.toNat then ad' else ad'.map (·.add (z.toNat*ti.size))) (mm-off-z.toNat) (cap-off-z.toNat),?_,?_⟩
  ·simp only[execOp,ho];simp[hx1,e2,Instr.sliceAt,Instr.slice,run_underlying hu,hbd,sizeOf,typeInfo,hti]
  ·refine .qs id _ _ ver _ (by rw[hH];exact weh _) λ_ _=>⟨ad,mm,cap,_,hV,by rw[show mm-off-z.toNat=mm-(off+z.toNat) by omega,show cap-off-z.toNat=cap-(off+z.toNat) by omega],hz,hmc,?_⟩
   rcases hcase with⟨r1,r2⟩|⟨b,oo,r1,r2,r3⟩
   ·left;subst r2;refine⟨r1,?_⟩;split<;>rfl
   ·right;subst r2;by_cases hc:cap-off=z.toNat
    ·exact⟨b,oo,r1,by rw[if_pos hc],.inr (by omega)⟩
    ·refine⟨b,oo+z.toNat*ti.size,r1,by rw[if_neg hc];simp[zq],?_⟩;rcases r3 with r3|r3
     ·left;rw[r3,wfr]
     ·right;omega
theorem jbp{α:Type}{e kk id:Nat}{rep:α->PV}{q:PV}{xs:List α}(ht:y7 P t=true)(ho:ownQ' e kk rep H id q xs)(hx:evP F x=q):PQ P W ⟨some d,.call { callee :=.builtin .len,args:=#[x],argTypes:=#[t] },ty,pos,af,g⟩ F H (.u (.int .i64 xs.length)):=
 wae λV a w hr hh=>by
  obtain⟨off,ver,pre,hq,hp,hH⟩:=ho;have hxv:=hh x (by simp[Op.operands,Call.operands]);rw[hx,hq]at hxv;have e1:zpw off kk (V id) (a.eval x):=by
   generalize a.eval x=q at hxv;cases hxv with
   |qs _ _ _ _ _ hvv hq=>exact hq (by rw[hH];rfl) (by rw[hH])
  obtain⟨ad,mm,cap,ad',hV,hx1,hoff,hmc,hcase⟩:=e1;have hmm:mm=off+xs.length:=by
   rcases wa8 hr hH with⟨h0,hV2⟩|⟨b,cap2,cur,hV2,_⟩<;>rw[hV]at hV2<;>cases hV2
   ·exact h0.symm
   ·rfl
  refine⟨.int .i64 xs.length,?_,.u _⟩;have:=L.run_len_slice (P:=P) ht ty ad' (mm-off) (cap-off) w;rw[show mm-off=xs.length by omega]at this;simp only[execOp,resolve,invoke,builtin,Sem.run_bind,Sem.run_pure,Result.andThen_ok,wg0,wen,wfk,hx1,show mm-off=xs.length by omega,this]
theorem ja1{α:Type}{e kk id:Nat}{rep:α->PV}{q:PV}{xs:List α}{kd:IntKind}{z:Int}{v:α}(he:esz P t=some kk)(ho:ownQ' e kk rep H id q xs)(hx:evP F x=q)(hy:evP F y=.u (.int kd z))(hv:idx xs z=some v)(hk:∀x,(rep x).cells.length=kk):
  ∃off ver,PQ P W ⟨some d,.indexAddr t x y,ty,pos,af,g⟩ F H (.pp id off ver)/\jl H id ver=some ((H id).body.elim [] λb=>match b with|.row _ _ _ cs=>cs|.box _ cs=>cs|_=>[])/\∀j,j<kk->(((H id).body.elim [] λb=>match b with|.row _ _ _ cs=>cs|.box _ cs=>cs|_=>[]).drop off)[j]?=(rep v).cells[j]?:=by
 obtain⟨off,ver,pre,hq,hp,hH⟩:=ho;obtain⟨h0,h1⟩:=Vt hv;obtain⟨hlt,hge⟩:=wd5.1 h1;refine⟨(off+z.toNat)*kk,ver,?_,?_,?_⟩
 ·exact wae λV a w hr hh=>by
   obtain⟨e',ti,hu,hti,rfl⟩:=zac he;have hxv:=hh x (by simp[Op.operands]);have hyv:=hh y (by simp[Op.operands]);rw[hx,hq]at hxv;rw[hy]at hyv;have e1:zpw off ti.size (V id) (a.eval x):=by
    generalize a.eval x=q at hxv;cases hxv with
    |qs _ _ _ _ _ hvv hq=>exact hq (by rw[hH];rfl) (by rw[hH])
   have e2:a.eval y=.int kd z:=by generalize a.eval y=q at hyv;cases hyv;rfl
   obtain⟨ad,mm,cap,ad',hV,hx1,hoff,hmc,hcase⟩:=e1;rcases wa8 hr hH with⟨h0,hV2⟩|⟨b,cap2,cur,hV2,_⟩
   ·omega
   ·rw[hV]at hV2;cases hV2;rcases hcase with⟨r1,_⟩|⟨b',oo,r1,r2,r3⟩
    ·cases r1
    ·cases r1;subst r2;have hoo:oo=off*ti.size:=by rcases r3 with r3|r3;exact r3;omega
     have:=L.run_indexAt_slice (P:=P) hu hti w b oo (off+xs.length-off) (cap-off) kd z h0 (by omega);refine⟨.pointer (some ⟨b,oo+z.toNat*ti.size,none⟩),by simp only[execOp];rw[hx1,e2];simp only[Nat.add_sub_cancel_left]at this⊢;simp[this],?_⟩;rw[hoo,<- wfr];exact .pp id _ ver _ (by rw[hH];exact weh _) λ_ _=>⟨b,by rw[hV];rfl,rfl⟩
 ·rw[J6,hH,zpf,if_pos rfl];rfl
 ·intro j hj;rw[hH];show((((pre++xs).map rep).flatMap PV.cells).drop ((off+z.toNat)*kk))[j]?=_;rw[we5];have hfa:=zhd (k:=kk) (xs:=(pre++xs).map rep) (λy hy=>by obtain⟨u,_,rfl⟩:=wef.1 hy;exact hk u) (off+z.toNat) j (rep v) (by rw[web,<- hp,wei (by omega)];simp[h1]) hj;exact hfa
theorem jbd{w:World}{t ty e:TypeId}{i:TypeInfo}(ht:P.underlying t=some (.slice e))(hi:P.info? e=some i)
  {g off m cap:Nat}{cur:Array Value}(hg:w.heap[g]?=some (.cells cur e (0,0))) (hoff:off<=m)
  {a:Addr}{m2 c:Nat}{news:List Value}(hl:news.length=m2*i.size) (hnews:∀j u,news[j]?=some u->w.cell? (a.add j)=some u) (h1:∀u∈news,u.oneCell'=true)
  (hroom:m+m2<=cap) (hfit:m*i.size+news.length<=cur.size) :
  (Builtin.append_ #[t,t] ty #[.slice (some ⟨g,off*i.size,none⟩) (m-off) (cap-off),.slice (some a) m2 c]).run P w =
   .ok (.slice (some ⟨g,off*i.size,none⟩) (m-off+m2) (cap-off)) (w.setRow g (cur.toList.take (m*i.size)++news++cur.toList.drop (m*i.size+news.length)).toArray):=by
 have hf:=run_firstCells_some (P:=P) w i.size m2 a m2 c news hl hnews;have hst:=run_storeCells_at P g (m*i.size) e news 0 cur w hg (by simpa using hfit) h1;simp only[wfu]at hst;have hadd:off*i.size+(m-off)*i.size=m*i.size:=by rw[<- wfr];congr 1;omega
 have hroom':m-off+m2<=cap-off:=by omega
 simp[Builtin.append_,run_underlying ht,sizeOf,typeInfo,hi,Builtin.lenOf,hroom',hf,zq,hadd,hst]
theorem z6j{w:World}{base:Nat}{e:TypeId}{i:TypeInfo}{z:Value}(hzs:z.cells.size=i.size){n m old:Nat}(ho:old<n+m){xs news:List Value}(hxs:xs.length=n*i.size)(hl:news.length=m*i.size)(h63:n+m<=maxLen)(hbase:base<=w.heap.size)(row:Option Nat):
  (w.drew.alloc (.cells (xs.toArray++news.toArray++Builtin.zeroCells z.cells (grownCap w (n+m) old e-(n+m))) e)).ownsRow base e i.size
    (.slice (some ⟨w.heap.size,0,none⟩) (n+m) (grownCap w (n+m) old e)) (n+m) (xs++news) /\
   w.grownBy (w.drew.alloc (.cells (xs.toArray++news.toArray++Builtin.zeroCells z.cells (grownCap w (n+m) old e-(n+m))) e)) row:=by
 have hge:=grownCap_ge w (n+m) old e;have hcm:grownCap w (n+m) old e<=maxLen:=grownCap_le_maxLen w (n+m) old e h63;have hlen:(xs++news).length=(n+m)*i.size:=by rw[weo,hxs,hl,wfr]
 refine⟨⟨hlen,.inr ⟨w.heap.size,_,_,rfl,hbase,heap_alloc_new w.drew _,hge,hcm,?_,?_⟩⟩,⟨rfl,rfl,rfl,by simp,λk hk _=>heap_alloc_old w.drew _ hk⟩⟩
 ·simp only[Array.size_append,List.size_toArray,size_zeroCells,hzs,hxs,hl,<- wfr];congr 1;omega
 ·simp only[Array.toList_append,weu];rw[<- weu,<- hlen];exact List.take_left
theorem wc2{s x:Operand}{t e:TypeId}{k b d id off ver m m2:Nat}{z:Value}{cs cs2:List PV}{K:PV->PHeap->Prop}(ho:o.op=.call { callee :=.builtin .append,args:=#[s,x],argTypes:=#[t,t] })(hd:o.dst=some d)(hdn:d<n)(ht:yq P t=some (e,k,b,z))
  (hs:evP F s=.qs id off k ver) (hH:H id=⟨ver,some (.row e k m cs)⟩) (hx:zdj H k (evP F x)=some (m2,cs2)) (hleaf:∀p∈cs2,qh H p=true) (h63:m-off+m2<=maxLen) (hbytes:(m-off+m2)*b<=140737488355328)
  (hk1:K (.qs id off k (ver+1)) (H.set id ⟨ver+1,some (.row e k (m+m2) (cs++cs2))⟩))
  (hk2:K (.qs id 0 k (ver+1)) (H.set id ⟨ver+1,some (.row e k (m-off+m2) (cs.drop (off*k)++cs2))⟩)):PE P W n o F H K:=λV a w hr=>by
 obtain⟨i,hu,hi,hzz,hsz,rfl,hzs,hpos⟩:=Zg ht;have hb:(H id).body=some (.row e k m cs):=by rw[hH]
 have hve:(H id).ver=ver:=by rw[hH]
 have hsv:zpw off k (V id) (a.eval s):=by
  have:=Rp.eval (P:=P) (F:=F) (a:=a) (Z:=W.Z) (H:=H) (V:=V) (w:=w) s λt _=>hr.slot t;rw[hs]at this;generalize a.eval s=q at this;cases this with
  |qs _ _ _ _ _ hvv hh=>exact hh (by rw[hb];rfl) hve
 obtain⟨vals,hown,hR,h1⟩:=hr.heap.row id e k m cs hb;obtain⟨ad,c,hxv,hsrc⟩:=zgl hr.heap (Rp.eval (P:=P) (F:=F) (a:=a) x λt _=>hr.slot t) hx;have hsrc2:∃news,RpL W.Z H V w cs2 news/\(∀u∈news,u.oneCell'=true)/\((m2=0/\news=[])\/∃b,ad=some b/\news.length=m2*k/\(∀j u,news[j]?=some u->w.cell? (b.add j)=some u)/\∀u∈news,u.oneCell'=true):=by
  rcases hsrc with⟨rfl,rfl⟩|⟨b,news,e1,e2,hRn,e4⟩
  ·exact⟨[],⟨rfl,λi p v h=>by simp at h⟩,(λu hu=>by cases hu),.inl ⟨rfl,rfl⟩⟩
  ·have hone:∀u∈news,u.oneCell'=true:=λu hu=>by
    obtain⟨j,hj,rfl⟩:=wgb hu;have hj2:j<cs2.length:=by rw[hRn.1];exact hj
    exact(hRn.2 j _ _ (wd2 hj2) (wd2 hj)).leaf hr.heap (hleaf _ (wec hj2))
   exact⟨news,hRn,hone,.inr ⟨b,e1,e2,e4,hone⟩⟩
 obtain⟨news,hRn,hone,hs2⟩:=hsrc2;have hob:=Q6 hown;obtain⟨ad0,mm,cap,ad1,hV,hv1,hoff,hmc,hcase⟩:=hsv;have hmm:mm=m:=by
  rcases hown.2 with⟨e1,h0⟩|⟨g',cap',cur',e1,_⟩<;>rw[hV]at e1<;>cases e1
  ·exact h0.symm
  ·rfl
 subst hmm
 -- what the two ways have in common
 have fin:∀(off' mn:Nat)(v' vf:Value)(w':World)(csn:List PV)(vn:List Value),
   (execOp a.eval o).run P w=.ok (.value v') w'->w'.ownsRow W.w.heap.size e k vf mn vn->w.grownBy w' (V id).ownBlock ->
   (∀g,qc vf=some g->w.heap.size<=g\/qc (V id)=some g)->zpw off' k vf v'->RpL W.Z H V w csn vn->(∀u∈vn,u.oneCell'=true) ->
   K (.qs id off' k (ver+1)) (H.set id ⟨ver+1,some (.row e k mn csn)⟩) ->
   o.wp P a w (λa' w'=>∃p H' V',K p H'/\Rel P W n (F.put o.dst p) H' V' a' w') (λ_ _ _=>False):=by
  intro off' mn v' vf w' csn vn hex hown' hgr hblk hdr hRc hc1 hk;refine yh hex ⟨_,_,yf V id vf,hk,?_⟩;have hturn:Turn W H V w id ⟨ver+1,some (.row e k mn csn)⟩ vf w':=by
   refine⟨hr.heap.below.grown hgr hr.heap.below.size λkk hk=>?_,hgr.size,λbb hlt hn=>hgr.block bb hlt λe'=>hn ⟨by rw[hb];rfl,by rw[<- hob];exact e'.symm⟩,λg hg=>?_,.inl (by show(H id).ver<ver+1;omega)⟩
   ·exact(hown.lt kk hk).1
   ·rcases hblk g hg with h|h
    ·exact .inl h
    ·exact .inr ⟨by rw[hb];rfl,h⟩
  rw[hd];refine hr.turn hturn (λbd hbd=>?_) (some d) (λt ht=>by cases ht;exact hdn) ?_
  ·cases hbd;exact⟨vn,hown',⟨hRc.1,λi p v h3 h4=>hturn.rp (hRc.2 i p v h3 h4)⟩,hc1⟩
  ·refine .qs _ _ _ _ _ ?_ λ_ _=>?_
   ·simp[PHeap.set]
   ·simpa [yf]using hdr
 have hRapp:RpL W.Z H V w (cs++cs2) (vals++news):=⟨by simp[hR.1,hRn.1],λi p v h3 h4=>by
  by_cases hi':i<cs.length
  ·rw[weg hi']at h3;rw[weg (by rw[<- hR.1];exact hi')]at h4;exact hR.2 i p v h3 h4
  ·rw[wei (by omega)]at h3;rw[wei (by rw[<- hR.1];omega),<- hR.1]at h4;exact hRn.2 _ p v h3 h4⟩
 have happ1:∀u∈vals++news,u.oneCell'=true:=λu hu=>by
  rcases wej.1 hu with hu|hu
  ·exact h1 u hu
  ·exact hone u hu
 have hcsl:cs.length=mm*k:=by rw[hR.1,hown.1]
 have hexe:∀{v' w'},(Builtin.append_ #[t,t] o.type #[.slice ad1 (mm-off) (cap-off),.slice ad m2 c]).run P w=.ok v' w'->(execOp a.eval o).run P w=.ok (.value v') w':=λhrun=>by
  unfold execOp;simp only[ho,resolve,invoke,builtin,Sem.run_bind,Sem.run_pure,Result.andThen_ok,wg0,wen,wfk,hv1,hxv,hrun]
 rcases hs2 with⟨rfl,rfl⟩|⟨bb,rfl,hl,hc,h1n⟩
 ·-- nothing is appended
  have hcs2:cs2=[]:=wek (by simpa using hRn.1);subst hcs2;refine fin off mm (.slice ad1 (mm-off) (cap-off)) (V id) w (cs++[]) (vals++[]) (hexe ?_) (by simpa using hown) ⟨rfl,rfl,rfl,weh _,λ_ _ _=>rfl⟩ (λg hg=> .inr hg) ⟨_,_,_,_,hV,rfl,hoff,hmc,hcase⟩ (by simpa using hRapp) (by simpa using happ1) (by simpa using hk1);rcases hcase with⟨rfl,rfl⟩|⟨bk,oo,rfl,rfl,_⟩
  ·rcases hown.2 with⟨e1,h0⟩|⟨g',cap',cur',e1,_⟩<;>rw[hV]at e1<;>cases e1;cases ad<;>simp[Builtin.append_,run_underlying hu,sizeOf,typeInfo,hi,Builtin.lenOf,Builtin.firstCells,loadCells,loadCellsFrom]
  ·have:mm-off<=cap-off:=Nat.sub_le_sub_right hmc _;cases ad<;>simp[Builtin.append_,run_underlying hu,sizeOf,typeInfo,hi,Builtin.lenOf,Builtin.firstCells,loadCells,loadCellsFrom,this,storeCells]
 ·rcases hown.2 with⟨e1,h0⟩|⟨g,cap',cur,e1,hbg,hg0,hcap,hcm,hcs,htake⟩
  ·-- nil
   rw[hV]at e1;cases e1;have hoff0:off=0:=by omega
   subst hoff0;have had:ad1=none:=by
    rcases hcase with⟨_,r⟩|⟨_,_,r,_⟩
    ·exact r
    ·cases r
   subst had;have hcs0:cs=[]:=wek (by simpa using hcsl);subst hcs0;have hv0:vals=[]:=wek (by simpa using hown.1);subst hv0;obtain⟨v',w',hrun,h4,h5,h6⟩:=run_append_own (P:=P) w W.w.heap.size t o.type e i z k i.bytes hu hi hzz hsz rfl hzs hpos (.slice none 0 0) 0 [] (World.ownsRow_nil _ _ _ _) bb m2 c news hl hc h1n (by omega) (by simpa using hbytes) hr.heap.below.size;obtain⟨v'',w'',hrun2,h42,_⟩:=run_append_own (P:=P) w w.heap.size t o.type e i z k i.bytes hu hi hzz hsz rfl hzs hpos (.slice none 0 0) 0 [] (World.ownsRow_nil _ _ _ _) bb m2 c news hl hc h1n (by omega) (by simpa using hbytes) (weh _);rw[hrun]at hrun2;cases hrun2;have hfresh:∀g,qc v'=some g->w.heap.size<=g:=λg hg=>by
    refine(h42.lt g ?_).1;rw[Q6 h42];exact hg
   have hdr:zpw 0 k v' v':=by
    rcases h4.2 with⟨e1,e2⟩|⟨g',cap',cur',e1,_,_,e5,_⟩
    ·exact⟨none,0,0,none,e1,e1,weh _,weh _,.inl ⟨rfl,rfl⟩⟩
    ·exact⟨_,_,_,_,e1,e1,wgm _,e5,.inr ⟨g',0,rfl,rfl,.inl (by simp)⟩⟩
   exact fin 0 (0-0+m2) v' v' w' _ ([]++news) (hexe hrun) (by simpa using h4) (by rw[hV];exact h5) (λg hg=> .inl (hfresh g hg)) hdr (by simpa using hRapp) (by simpa using happ1) hk2
  ·rw[hV]at e1;cases e1;obtain⟨oo,rfl,hoo⟩:∃oo,ad1=some ⟨g,oo,none⟩/\(oo=off*k\/cap=off):=by
    rcases hcase with⟨r,_⟩|⟨b',o',r1,r2,r3⟩
    ·cases r
    ·cases r1;exact⟨o',r2,r3⟩
   subst hsz;by_cases hroom:mm+m2<=cap
   ·by_cases hm2:m2=0
    ·subst hm2;have hn0:news=[]:=wek (by simpa using hl);subst hn0;have hcs2:cs2=[]:=wek (by simpa using hRn.1);subst hcs2;refine fin off mm (.slice (some ⟨g,oo,none⟩) (mm-off) (cap-off)) (V id) w (cs++[]) (vals++[]) (hexe ?_) (by simpa using hown) ⟨rfl,rfl,rfl,weh _,λ_ _ _=>rfl⟩ (λg hg=> .inr hg) ⟨_,_,_,_,hV,rfl,hoff,hmc,hcase⟩ (by simpa using hRapp) (by simpa using happ1) (by simpa using hk1);have:mm-off<=cap-off:=by omega
     simp[Builtin.append_,run_underlying hu,sizeOf,typeInfo,hi,Builtin.lenOf,Builtin.firstCells,loadCells,loadCellsFrom,this,storeCells]
    ·have hoo':oo=off*i.size:=by rcases hoo with h|h;exact h;omega
     subst hoo';have hfit:mm*i.size+news.length<=cur.size:=by rw[hl,hcs,<- wfr];exact wgg _ hroom
     have hr1:=jbd (P:=P) (c:=c) (ty:=o.type) hu hi hg0 hoff hl hc h1n hroom hfit;have hlen:(vals++news).length=(mm+m2)*i.size:=by rw[weo,hown.1,hl,wfr]
     have heq:mm-off+m2=mm+m2-off:=(Nat.sub_add_comm hoff).symm;refine fin off (mm+m2) _ (.slice (some ⟨g,0,none⟩) (mm+m2) cap) _ (cs++cs2) (vals++news) (hexe hr1) ⟨hlen,.inr ⟨g,cap,_,rfl,hbg,setRow_heap w g cur _ e _ hg0,hroom,hcm,?_,?_⟩⟩ ⟨rfl,rfl,rfl,by simp,λk _ hk=>setRow_other w g k _ (λe=>hk (by rw[hV];simp[Value.ownBlock,e]))⟩ (λg' hg'=> .inr (by rw[hV];exact hg')) ⟨_,_,_,_,rfl,by rw[heq],wfn hoff (Nat.le_add_right _ _),hroom,.inr ⟨g,_,rfl,rfl,.inl rfl⟩⟩ hRapp happ1 hk1
     ·simp only[List.size_toArray,weo,wfg,wfc,Array.length_toList];omega
     ·rw[htake,<- hlen];exact List.take_left
   ·have holds:∀j u,(vals.drop (off*i.size))[j]?=some u->w.cell? ((⟨g,oo,none⟩:Addr).add j)=some u:=λj u hj=>by
     by_cases he:cap=off
     ·have hmo:mm=off:=by omega
      have:(vals.drop (off*i.size)).length=0:=by rw[wfc,hown.1,hmo];omega
      rw[wek this]at hj;cases hj
     ·have hoo':oo=off*i.size:=by rcases hoo with h|h;exact h;omega
      subst hoo';rw[we5]at hj;have:=hown.cells (g:=g) (by rw[hV];rfl) _ _ hj;rw[zq]at this;rw[zq];simpa using this
    have hlo:(vals.drop (off*i.size)).length=(mm-off)*i.size:=by rw[wfc,hown.1,Nat.sub_mul]
    have h63':((mm-off+m2:Nat):Int)<=9223372036854775807:=by simp only[maxLen]at h63;omega
    have hr1:=run_append_grow (P:=P) w t o.type e i z hu hi hzz ⟨g,oo,none⟩ (mm-off) (cap-off) (vals.drop (off*i.size)) hlo holds bb m2 c news hl hc (by omega) h63' (growslice_fits (by omega) hbytes);obtain⟨hg1,hg2⟩:=z6j (w:=w) (base:=W.w.heap.size) (e:=e) hzs (old:=cap-off) (by omega) hlo hl h63 hr.heap.below.size (V id).ownBlock;refine fin 0 (mm-off+m2) _ _ _ (cs.drop (off*i.size)++cs2) _ (hexe hr1) hg1 hg2 (λg' hg'=> .inl (by cases hg';exact weh _)) ⟨_,_,_,_,rfl,rfl,wgm _,grownCap_ge w _ _ e,.inr ⟨_,0,rfl,rfl,.inl (by simp)⟩⟩ ⟨?_,λi' p v h3 h4=>?_⟩ (λu hu=>?_) hk2
    ·simp[hR.1,hRn.1]
    ·by_cases hi':i'<(cs.drop (off*i.size)).length
     ·rw[weg hi',we5]at h3;rw[weg (by simpa [<- hR.1]using hi'),we5]at h4;exact hR.2 _ p v h3 h4
     ·rw[wei (by omega)]at h3;have hle:(vals.drop (off*i.size)).length=(cs.drop (off*i.size)).length:=by simp[hR.1]
      rw[wei (by omega),hle]at h4;exact hRn.2 _ p v h3 h4
    ·rcases wej.1 hu with hu|hu
     ·exact h1 u (wgh hu)
     ·exact hone u hu
def ownQ{α:Type}(e k:Nat)(rep:α->PV)(H:PHeap)(id:Nat)(q:PV)(xs:List α):Prop:=ownL e k rep H id q xs\/ownQ' e k rep H id q xs
theorem ownQ.mono{α:Type}{e k id:Nat}{rep:α->PV}{H H':PHeap}{q:PV}{xs:List α}(h:ownQ e k rep H id q xs)(he:H' id=H id):ownQ e k rep H' id q xs:=h.imp (λh=>h.mono he) (λh=>h.mono he)
theorem q_len{α:Type}{e kk id:Nat}{rep:α->PV}{q:PV}{xs:List α}(ht:y7 P t=true)(ho:ownQ e kk rep H id q xs)(hx:evP F x=q):PQ P W ⟨some d,.call { callee :=.builtin .len,args:=#[x],argTypes:=#[t] },ty,pos,af,g⟩ F H (.u (.int .i64 xs.length)):=by
 rcases ho with ho|ho
 ·exact jh (jen ht ho hx)
 ·exact jbp ht ho hx
theorem z6i{α:Type}{rep:α->PV}{k:Nat}(hk:∀x,(rep x).cells.length=k)(xs:List α){z j:Nat}{v:α}(hv:xs[z]?=some v)(hj:j<k):(((xs.map rep).flatMap PV.cells).drop (z*k))[j]?=(rep v).cells[j]?:=by
 rw[we5];exact zhd (k:=k) (xs:=xs.map rep) (λy hy=>by obtain⟨u,_,rfl⟩:=wef.1 hy;exact hk u) z j (rep v) (by rw[web,hv];rfl) hj
theorem zzn{cs:List PV}{k:Nat}{c:List PV}(hc:c.length=k)(h:∀j,j<k->cs[j]?=c[j]?):(∀p,c=[p]->qw false k cs=some p)/\qw true k cs=some (.agg c):=by
 constructor
 ·intro p hp;subst hp;have:=h 0 (by simp at hc;omega);rw[zgc,this];rfl
 ·have hl:k<=cs.length:=by
   by_cases h0:k=0
   ·omega
   ·have:=h (k-1) (by omega);rw[wd2 (l:=c) (by omega)]at this;obtain⟨hlt,_⟩:=wd5.1 this;omega
  rw[zrs _ _ hl];congr 2;apply wfj;intro i;rw[wfm];split
  ·rename_i hi;exact h i hi
  ·rename_i hi;rw[wfv (by omega)]
theorem q_idx{α:Type}{e kk id:Nat}{rep:α->PV}{q:PV}{xs:List α}{kd:IntKind}{z:Int}{v:α}(he:esz P t=some kk)(hk:∀x,(rep x).cells.length=kk)(ho:ownQ e kk rep H id q xs)(hx:evP F x=q)(hy:evP F y=.u (.int kd z))(hv:idx xs z=some v):
  ∃p,PQ P W ⟨some d,.indexAddr t x y,ty,pos,af,g⟩ F H p/\∃cs,(∀t',yc P H t' p=(asz P t').elim none λr=>qw r.1 r.2 cs)/\(∀pv,(rep v).cells=[pv]->qw false kk cs=some pv)/\qw true kk cs=some (.agg (rep v).cells):=by
 rcases ho with ho|ho
 ·obtain⟨hq,hH⟩:=ho.at hv;obtain⟨h0,h1⟩:=Vt hv;refine⟨_,jh (zpj he ho hx hy hv),_,λt'=>by rw[zcf,J6,hH,zpf,if_pos rfl];rfl,?_⟩;exact zzn (hk v) λj hj=>z6i hk xs h1 hj
 ·obtain⟨off,ver,h1,h2,h3⟩:=ja1 (ty:=ty) (pos:=pos) (af:=af) (g:=g) (d:=d) (W:=W) he ho hx hy hv hk;refine⟨_,h1,_,λt'=>by rw[zcf,h2];rfl,?_⟩;exact zzn (hk v) h3
theorem q_ld1{p pv:PV}{kk:Nat}{cs:List PV}(ht:asz P t=some (false,kk))(hx:evP F x=p)(h1:∀t',yc P H t' p=(asz P t').elim none λr=>qw r.1 r.2 cs)(h2:qw false kk cs=some pv):jr P H F ⟨some d,.load t x,ty,pos,af,g⟩=some pv:=by
 rw[V9,hx,h1,ht];exact h2
theorem q_from{α:Type}{e kk id:Nat}{rep:α->PV}{q:PV}{xs ys:List α}{lo:Operand}{kd:IntKind}{z:Int}(he:esz P t=some kk)(hk:∀x,(rep x).cells.length=kk)(ho:ownQ e kk rep H id q xs)(hx:evP F x=q)(hy:evP F lo=.u (.int kd z))(hs:z76 xs z xs.length=some ys)(hz:z≠0):
  ∃p,PQ P W ⟨some d,.slice t x (some lo) none none,ty,pos,af,g⟩ F H p/\ownQ e kk rep H id p ys:=by
 obtain⟨⟨h0,_,h1,_⟩,rfl⟩:=z7w hs;simp only[wem,we1]at h1⊢;have hzn:z.toNat≠0:=by omega
 rcases ho with ho|⟨off,ver,pre,hq,hp,hH⟩
 ·obtain⟨ver,hq,hH⟩:=wbp ho (by omega);subst hq;refine⟨_,wbs rfl he hx hH hy h0 h1,.inr ⟨z.toNat,ver,xs.take z.toNat,rfl,by simp;omega,?_⟩⟩;rw[wfh,wfc,show z.toNat+(xs.length-z.toNat)=xs.length by omega];exact hH
 ·subst hq;refine⟨_,wb9 rfl he hx hH hy h0 (by omega),.inr ⟨off+z.toNat,ver,pre++xs.take z.toNat,rfl,by simp[hp];omega,?_⟩⟩;rw[weu,wfh,wfc,show off+z.toNat+(xs.length-z.toNat)=off+xs.length by omega];exact hH
theorem PL.appQ{α:Type}{rep:α->PV}{e k b d id:Nat}{z:Value}{q:PV}{xs ys zs:List α}(hg:o.guard=none)(ho:o.op=.call { callee :=.builtin .append,args:=#[x,y],argTypes:=#[t,t] })(hd:o.dst=some d)(hdn:d<n)(ht:yq P t=some (e,k,b,z))
  (hs:evP F x=q) (hr:ownQ e k rep H id q xs) (hp:evP F y=.sl k (ys.map rep)) (hk:∀x,(rep x).cells.length=k) (hleaf:∀x,∀c∈(rep x).cells,qh H c=true) (hz:app b xs ys=some zs)
  (h:∀q' H',ownQ e k rep H' id q' zs->(∀j,j≠id->H' j=H j)->PL P W n ops l (F.put (some d) q') H' K):PL P W n ops (o::l) F H K:=by
 obtain⟨h1,h2,rfl⟩:=zrr hz;rcases hr with hr|⟨off,ver,pre,hq,hpl,hH⟩
 ·exact wb3 hg ho hd hdn ht hs hr hp hk hleaf h1 h2 λq' H' h3 h4=>h q' H' (.inl h3) h4
 ·subst hq;have hfl:∀(us:List α),((us.map rep).flatMap PV.cells).length=us.length*k:=λus=>by
   have:=L.flat_length (k:=k) (us.map rep) (λy hy=>by obtain⟨z,_,rfl⟩:=wef.1 hy;exact hk z);simpa using this
  refine waz hg (wc2 (off:=off) (m:=off+xs.length) (m2:=ys.length) (cs2:=(ys.map rep).flatMap PV.cells) ho hd hdn ht hs hH (by rw[hp];simp[zdj]) (λp hp=>?_) (by omega) (by rw[show off+xs.length-off+ys.length=xs.length+ys.length by omega];exact h2) ?_ ?_)
  ·obtain⟨y,hy,hc⟩:=wfe.1 hp;obtain⟨z,_,rfl⟩:=wef.1 hy;exact hleaf z p hc
  ·rw[hd];refine h _ _ (.inr ⟨off,ver+1,pre,rfl,hpl,?_⟩) λj hj=>by simp[PHeap.set,hj]
   simp[PHeap.set,wgj]
  ·rw[hd];refine h _ _ (.inr ⟨0,ver+1,[],rfl,rfl,?_⟩) λj hj=>by simp[PHeap.set,hj]
   have e1:(((pre++xs).map rep).flatMap PV.cells).drop (off*k)=(xs.map rep).flatMap PV.cells:=by
    rw[wfl,wf6,<- hpl,<- hfl pre];exact List.drop_left
   rw[e1];simp[PHeap.set]
theorem PL.ex{R:PV->Prop}(hg:o.guard=none)(hd:jo n o)(h:∃p,PQ P W o F H p/\R p)(k:∀p,R p->PL P W n ops l (F.put o.dst p) H K):PL P W n ops (o::l) F H K:=by
 obtain⟨p,h1,h2⟩:=h;exact PL.qq hg hd h1 (k p h2)
end
end Go.Proofs.YtdllbdlnmjngcaaGreat
namespace Go.Proofs
set_option maxRecDepth 100000
set_option maxHeartbeats 8000000
set_option linter.unusedVariables false
set_option linter.unusedSimpArgs false
open Go.Shelf
def wbu:Go.Shelf.Ren:=⟨λ|189=>163|125=>196|257=>195|128=>227|129=>228|294=>219|295=>220|296=>221|297=>222|298=>223|299=>224|216=>217|300=>225|301=>226|328=>232|329=>233|330=>234|331=>235|332=>236|215=>231|343=>237|n=>n,λ|28=>31|3=>3|46=>165|0=>0|51=>244|53=>95|4=>4|183=>238|182=>237|131=>177|5=>5|9=>9|218=>247|222=>251|228=>253|229=>254|n=>n,λ|n=>n⟩
theorem wbr:Go.Proofs.Lays.n189 Tryz.prog wbu:={
 mixed:=by kernel_rfl
 f125:=Tryz.func196.trans (congrArg some (by kernel_rfl))
 f128:=Tryz.func227.trans (congrArg some (by kernel_rfl))
 f129:=Tryz.func228.trans (congrArg some (by kernel_rfl))
 f189:=Tryz.func163.trans (congrArg some (by kernel_rfl))
 f215:=Tryz.func231.trans (congrArg some (by kernel_rfl))
 f216:=Tryz.func217.trans (congrArg some (by kernel_rfl))
 f257:=Tryz.func195.trans (congrArg some (by kernel_rfl))
 f294:=Tryz.func219.trans (congrArg some (by kernel_rfl))
 f295:=Tryz.func220.trans (congrArg some (by kernel_rfl))
 f296:=Tryz.func221.trans (congrArg some (by kernel_rfl))
 f297:=Tryz.func222.trans (congrArg some (by kernel_rfl))
 f298:=Tryz.func223.trans (congrArg some (by kernel_rfl))
 f299:=Tryz.func224.trans (congrArg some (by kernel_rfl))
 f300:=Tryz.func225.trans (congrArg some (by kernel_rfl))
 f301:=Tryz.func226.trans (congrArg some (by kernel_rfl))
 f328:=Tryz.func232.trans (congrArg some (by kernel_rfl))
 f329:=Tryz.func233.trans (congrArg some (by kernel_rfl))
 f330:=Tryz.func234.trans (congrArg some (by kernel_rfl))
 f331:=Tryz.func235.trans (congrArg some (by kernel_rfl))
 f332:=Tryz.func236.trans (congrArg some (by kernel_rfl))
 f343:=Tryz.func237.trans (congrArg some (by kernel_rfl))
 t0:=Tryz.underlying0
 a0:=Tryz.isAgg0
 z0:=Tryz.sizeOf0
 v0:=Tryz.zeroValue0
 t3:=Tryz.underlying3
 a3:=Tryz.isAgg3
 z3:=Tryz.sizeOf3
 v3:=Tryz.zeroValue3
 t4:=Tryz.underlying4
 a4:=Tryz.isAgg4
 z4:=Tryz.sizeOf4
 v4:=Tryz.zeroValue4
 t5:=Tryz.underlying5
 a5:=Tryz.isAgg5
 z5:=Tryz.sizeOf5
 v5:=Tryz.zeroValue5
 t9:=Tryz.underlying9
 a9:=Tryz.isAgg9
 z9:=Tryz.sizeOf9
 v9:=Tryz.zeroValue9
 t28:=Tryz.underlying31
 a28:=Tryz.isAgg31
 z28:=Tryz.sizeOf31
 v28:=Tryz.zeroValue31
 t46:=Tryz.underlying165
 a46:=Tryz.isAgg165
 z46:=Tryz.sizeOf165
 v46:=Tryz.zeroValue165
 t51:=Tryz.underlying244
 a51:=Tryz.isAgg244
 z51:=Tryz.sizeOf244
 v51:=Tryz.zeroValue244
 t53:=Tryz.underlying95
 a53:=Tryz.isAgg95
 z53:=Tryz.sizeOf95
 v53:=Tryz.zeroValue95
 t131:=Tryz.underlying177
 a131:=Tryz.isAgg177
 z131:=Tryz.sizeOf177
 v131:=Tryz.zeroValue177
 t182:=Tryz.underlying237
 a182:=Tryz.isAgg237
 z182:=Tryz.sizeOf237
 v182:=Tryz.zeroValue237
 t183:=Tryz.underlying238
 a183:=Tryz.isAgg238
 z183:=Tryz.sizeOf238
 v183:=Tryz.zeroValue238
 t218:=Tryz.underlying247
 a218:=Tryz.isAgg247
 z218:=Tryz.sizeOf247
 v218:=Tryz.zeroValue247
 t222:=Tryz.underlying251
 a222:=Tryz.isAgg251
 z222:=Tryz.sizeOf251
 v222:=Tryz.zeroValue251
 t228:=Tryz.underlying253
 a228:=Tryz.isAgg253
 z228:=Tryz.sizeOf253
 v228:=Tryz.zeroValue253
 t229:=Tryz.underlying254
 a229:=Tryz.isAgg254
 z229:=Tryz.sizeOf254
 v229:=Tryz.zeroValue254 }
open Go.Sort Go.RowKit in
theorem Tryz.slices_Sort_int(blk off cap:Nat)(zs:List Int)(w:World)(hH:Holds (Value.int .i64) w blk off zs.toArray)(hblk:blk<w.heap.size)(hsz:zs.length<4611686018427387904):
  Calls Tryz.prog 163 #[.slice (some ⟨blk,off,none⟩) zs.length cap] w λe w'=>
   e=.returned (.tuple #[])/\∃n os,w'=grow (putRow (Value.int .i64) (Sort.ahead w n) blk off (zs.mergeSort λx y=>decide (x<=y)).toArray) os:=Any.slices_Sort_int wbr blk off cap zs w hH hblk hsz
def wbj:Go.Shelf.Ren:=⟨λ|15=>174|n=>n,λ|22=>31|3=>3|4=>4|n=>n,λ|n=>n⟩
theorem wa9:Go.Proofs.Lays2.n15 Tryz.prog wbj:={
 mixed:=by kernel_rfl
 f15:=Tryz.func174.trans (congrArg some (by kernel_rfl))
 t3:=Tryz.underlying3
 a3:=Tryz.isAgg3
 z3:=Tryz.sizeOf3
 v3:=Tryz.zeroValue3
 t4:=Tryz.underlying4
 a4:=Tryz.isAgg4
 z4:=Tryz.sizeOf4
 v4:=Tryz.zeroValue4
 t22:=Tryz.underlying31
 a22:=Tryz.isAgg31
 z22:=Tryz.sizeOf31
 v22:=Tryz.zeroValue31
 i3:=by kernel_rfl }
open Go.RowKit Go.Lib in
theorem Tryz.slices_Clone_int(b off n c:Nat)(zs:List Int)(w:World)(hz:n<=zs.length)(hbig:n*8<=140737488355328)(hc:∀j,j<zs.length->w.cell? ⟨b,off+j,none⟩=some (.int .i64 (zs.getD j 0))):
  Calls Tryz.prog 174 #[.slice (some ⟨b,off,none⟩) n c] w λe w'=>∃v',e=.returned v'/\w'.ownsRow w.heap.size 3 1 v' n ((zs.take n).map (Value.int .i64))/\v' ≠ .slice none 0 0/\Below w.heap.size w w':=Any.slices_Clone_int wa9 b off n c zs w hz hbig hc
open Go.RowKit Go.Lib in
theorem Tryz.slices_Clone_int_nil(n c:Nat)(w:World):
  Calls Tryz.prog 174 #[.slice none n c] w λe w'=>e=.returned (.slice none 0 0)/\w'=w:=Any.slices_Clone_int_nil wa9 n c w
open Go.RowKit Go.Lib in
theorem Tryz.slices_Clone_int_zero(a:Addr)(c:Nat)(w:World):
  Calls Tryz.prog 174 #[.slice (some a) 0 c] w λe w'=>∃v',e=.returned v'/\w'.ownsRow w.heap.size 3 1 v' 0 []/\v' ≠ .slice none 0 0/\Below w.heap.size w w':=Any.slices_Clone_int_zero wa9 a c w
def wbi:Go.Shelf.Ren:=⟨λ|20=>164|n=>n,λ|22=>31|3=>3|4=>4|0=>0|n=>n,λ|n=>n⟩
theorem wbf:Go.Proofs.Lays2.n20 Tryz.prog wbi:={
 mixed:=by kernel_rfl
 f20:=Tryz.func164.trans (congrArg some (by kernel_rfl))
 t0:=Tryz.underlying0
 a0:=Tryz.isAgg0
 z0:=Tryz.sizeOf0
 v0:=Tryz.zeroValue0
 t3:=Tryz.underlying3
 a3:=Tryz.isAgg3
 z3:=Tryz.sizeOf3
 v3:=Tryz.zeroValue3
 t4:=Tryz.underlying4
 a4:=Tryz.isAgg4
 z4:=Tryz.sizeOf4
 v4:=Tryz.zeroValue4
 t22:=Tryz.underlying31
 a22:=Tryz.isAgg31
 z22:=Tryz.sizeOf31
 v22:=Tryz.zeroValue31
 i3:=by kernel_rfl }
open Go.RowKit Go.Lib Go.Sort in
theorem Tryz.slices_Compact_int(blk off cap:Nat)(zs:List Int)(w:World)(hH:Holds (Value.int .i64) w blk off zs.toArray)(hsz:zs.length<=9223372036854775807)(hcap:zs.length<=cap):
  Calls Tryz.prog 164 #[.slice (some ⟨blk,off,none⟩) zs.length cap] w λe w'=>e=.returned (.slice (some ⟨blk,off,none⟩) (Lib.compact zs).length cap)/\∃q,w'=putRow (Value.int .i64) (Sort.ahead w q) blk off (Lib.compact zs++List.replicate (zs.length-(Lib.compact zs).length) 0).toArray:=Any.slices_Compact_int wbf blk off cap zs w hH hsz hcap
open Go.RowKit Go.Lib Go.Sort in
theorem Tryz.slices_Compact_int_empty(a:Option Addr)(cap:Nat)(w:World):
  Calls Tryz.prog 164 #[.slice a 0 cap] w λe w'=>e=.returned (.slice a 0 cap)/\w'=w:=Any.slices_Compact_int_empty wbf a cap w
open Go.RowKit Go.Sort in
theorem Tryz.slices_Sort_int_none(p:Option Addr)(cap:Nat)(w:World):
  Calls Tryz.prog 163 #[.slice p 0 cap] w λe w'=>e=.returned (.tuple #[])/\w'=w:=Any.slices_Sort_int_none wbr p cap w
end Go.Proofs
namespace Go.Proofs.YtdllbdlnmjngcaaGreat
set_option maxRecDepth 100000
set_option maxHeartbeats 8000000
set_option linter.unusedVariables false
set_option linter.unusedSimpArgs false
open Go
def Zd(l:List Int):List Int:=l.mergeSort λx y=>decide (x<=y)
def Qj(l:List Int):List Int:=Lib.compact l
def qv(l:List Int):Prop:=l.Pairwise (· < ·)
theorem zxv(l:List Int):(Zd l).Pairwise (·<=·):=by
 have h:(l.mergeSort λx y=>decide (x<=y)).Pairwise λa b=>decide (a<=b)=true:=List.pairwise_mergeSort (le:=λx y=>decide (x<=y)) (by simp;intro a b c;omega) (by simp;intro a b;omega) l;exact h.imp (by intro a b;simp)
theorem z5x(l:List Int)(x:Int):x∈Zd l↔x∈l:=by simp[Zd]
theorem zka(l:List Int):(Zd l).length=l.length:=List.length_mergeSort l
theorem zmm(d:Array Int)(hd:∀i j,i<j->j<d.size->d[i]!<=d[j]!)(m:Nat)(hm:m<=d.size):
  qv (Lib.compactUpTo d m)/\(∀x∈Lib.compactUpTo d m,∃j,j<m/\x=d[j]!)/\∀j,j<m->d[j]!∈Lib.compactUpTo d m:=by
 induction m with
 |zero=>exact⟨by simp[Lib.compactUpTo,qv],by simp[Lib.compactUpTo],by intro j hj;omega⟩
 |succ m ih=>
  obtain⟨h1,h2,h3⟩:=ih (by omega);rw[Lib.compactUpTo_succ];by_cases hk:Lib.keeps d m=true
  ·rw[if_pos hk];refine⟨?_,?_,?_⟩
   ·unfold qv;rw[wg7];refine⟨h1,by simp,?_⟩;intro x hx y hy;obtain⟨j,hj,rfl⟩:=h2 x hx;rw[wea]at hy;subst hy;have hne:d[m]!≠d[m-1]!:=by
     simp[Lib.keeps]at hk;rcases hk with hk|hk
     ·omega
     ·exact hk
    have h5:=hd j m hj (by omega);have h6:=hd (m-1) m (by omega) (by omega);by_cases e:j=m-1
    ·subst e;omega
    ·have:=hd j (m-1) (by omega) (by omega);omega
   ·intro x hx;rcases wej.1 hx with hx|hx
    ·obtain⟨j,hj,e⟩:=h2 x hx;exact⟨j,by omega,e⟩
    ·rw[wea]at hx;exact⟨m,by omega,hx⟩
   ·intro j hj;by_cases e:j=m
    ·subst e;simp
    ·exact wgr _ (h3 j (by omega))
  ·rw[if_neg hk,weq];refine⟨h1,λx hx=>?_,λj hj=>?_⟩
   ·obtain⟨j,hj,e⟩:=h2 x hx;exact⟨j,by omega,e⟩
   ·by_cases e:j=m
    ·subst e;simp[Lib.keeps]at hk;rw[hk.2];exact h3 (j-1) (by omega)
    ·exact h3 j (by omega)
theorem ztg(l:List Int)(hl:l.Pairwise (·<=·)):qv (Qj l)/\∀x,x∈Qj l↔x∈l:=by
 have hd:∀i j,i<j->j<l.toArray.size->l.toArray[i]!<=l.toArray[j]!:=by
  intro i j hij hj;simp only[List.size_toArray]at hj;have:=List.pairwise_iff_getElem.1 hl i j (by omega) hj hij;simpa [getElem!_pos,hj,show i<l.length by omega]using this
 obtain⟨h1,h2,h3⟩:=zmm l.toArray hd l.length (by simp);refine⟨h1,λx=>⟨λhx=>?_,λhx=>?_⟩⟩
 ·obtain⟨j,hj,e⟩:=h2 x hx;rw[e];simp[getElem!_pos,hj]
 ·obtain⟨j,hj,rfl⟩:=wgb hx;have:=h3 j hj;simpa [getElem!_pos,hj,Qj,Lib.compact]using this
theorem zn3(l:List Int):(Qj l).length<=l.length:=by
 unfold Qj Lib.compact Lib.compactUpTo;rw[wey];exact wfn (wgs _ _) (by simp)
open Go.RowKit
theorem RdI.cells{w:World}{a:Option Addr}{c n:Nat}{l:List Int}(h:RdI w (.slice a n c) l):n=l.length/\(l=[]\/∃b o,a=some ⟨b,o,none⟩/\∀j,j<l.length->w.cell? ⟨b,o+j,none⟩=some (.int .i64 (l.getD j 0))):=by
 obtain⟨a',c',hv,hc⟩:=h;cases hv;refine⟨rfl,?_⟩;by_cases h0:l=[]
 ·exact Or.inl h0
 ·have hp:0<l.length:=List.length_pos_iff.2 h0;obtain⟨b,o,ha,_⟩:=hc 0 hp;refine Or.inr ⟨b,o,ha,λj hj=>?_⟩;obtain⟨b',o',ha',hcell⟩:=hc j hj;rw[ha]at ha';cases ha';rw[hcell,we8,wd2 hj];rfl
theorem z7f(v:Value)(l:List Int)(w:World)(hv:RdI w v l)(hl:l.length<=10000000):
  Calls Tryz.prog 174 #[v] w λe w'=>∃v',e=.returned v'/\OwI w' w.heap.size v' l/\Below w.heap.size w w':=by
 obtain⟨a,c,rfl⟩:=hv.shape;obtain⟨_,h0|⟨b,o,rfl,hc⟩⟩:=hv.cells
 ·subst h0;cases a with
  |none=>exact(Tryz.slices_Clone_int_nil 0 c w).mono λe w'⟨he,hw⟩=>by subst hw;exact⟨_,he,Ow_nil _ _,Below.refl _ _⟩
  |some a=>exact(Tryz.slices_Clone_int_zero a c w).mono λe w'⟨v',he,hown,_,hb⟩=>⟨v',he,hown,hb⟩
 ·exact(Tryz.slices_Clone_int b o l.length c l w (weh _) (by omega) hc).mono λe w'⟨v',he,hown,_,hb⟩=>⟨v',he,by rw[we1]at hown;exact hown,hb⟩
open Go Go.RowKit L
def small7{α:Type}(xs:List α)(ys:List α):Option (List α):=if xs.length<=10000000 then some ys else none
theorem zcw{α:Type}{xs ys zs:List α}(h:small7 xs ys=some zs):xs.length<=10000000/\zs=ys:=by
 unfold small7 at h;split at h
 ·cases h;exact⟨by assumption,rfl⟩
 ·cases h
section
variable{P:Program}{W:Env}{n:Nat}{H:PHeap}{F:PFrame}{ops:Array Oper}{o:Oper}{l:List Oper}{K:PFrame → PHeap → Prop}{x:Operand}{ts:Array TypeId}
theorem PL.ownG{α:Type}{rep:α->PV}{enc:α->Value}{f:FuncId}{args:Array Operand}{e d:Nat}{qs:List PV}{xs:List α}(id:Nat)(hg:o.guard=none)(ho:o.op=.call ⟨.value (.func f),args,ts⟩)(hd:o.dst=some d)(hdn:d<n)(hf:yx P f=true)(ha:args.toList.map (evP F)=qs)(hn:∀p∈qs,NoP p)
  (hc:zpp P f qs e 1 (λn us=>n=xs.length/\us=xs.map enc)) (hrep:∀x,rep x=.u (enc x)) (h1:∀x,(rep x).cells=[rep x])
  (h:∀q' H',ownL e 1 rep H' id q' xs->(∀j,j≠id->H' j=H j)->PL P W n ops l (F.put (some d) q') H' K):PL P W n ops (o::l) F H K:=by
 refine waz hg (wb4 (id:=id) hd hdn ho (by rw[Yg,ha]) hf ⟨rfl,λi p q h1 h2=>?_⟩ hc λm us hR hl=>?_)
 ·rw[h1]at h2;cases h2;exact View.noP (hn p (wd7 h1))
 ·obtain⟨rfl,rfl⟩:=hR;rw[hd];refine h _ _ ?_ λj hj=>by simp[PHeap.set,hj]
  have hb:(H.set id ⟨(H id).ver+1,some (.row e 1 xs.length ((xs.map enc).map .u))⟩) id=⟨(H id).ver+1,some (.row e 1 xs.length ((xs.map enc).map .u))⟩:=by simp[PHeap.set]
  unfold ownL;rw[zaq h1];have:(xs.map enc).map PV.u=xs.map rep:=by rw[wff];exact we9 λx _=>(hrep x).symm
  rw[this]at hb⊢;exact OwnS.row (k:=1) hb (by simp)
theorem us_of{Z:ZM}{V:Nat->Value}{w:World}{xs:List Int}{vals:List Value}(h:RpL Z H V w (xs.map I) vals):vals=xs.map (.int .i64):=by
 apply wfj;intro i;have h1:=h.1;simp only[wey]at h1;by_cases hi:i<xs.length
 ·have e1:(xs.map I)[i]?=some (I xs[i]):=by simp[hi]
  have e2:vals[i]?=some vals[i]:=wd2 (by omega);have:=rpu (h.2 i _ _ e1 e2);rw[e2,this];simp[hi]
 ·rw[wfv (by omega),wfv (by simp;omega)]
theorem jcg{V:Nat->Value}{w:World}(xs:List Int):RpL W.Z H V w (xs.map I) (xs.map (.int .i64)):=by
 have:=RpL.us (W:=W) (H:=H) (V:=V) (w:=w) (xs.map (Value.int .i64));rw[wff]at this;exact this
end
theorem jcb(v:Value)(l:List Int)(B:Nat)(w:World)(hv:w.ownsRow B 3 1 v l.length (l.map (.int .i64)))(hl:l.length<=10000000):
  Calls Tryz.prog 163 #[v] w λe w'=>e=.returned (.tuple #[])/\w'.ownsRow B 3 1 v l.length ((Zd l).map (.int .i64))/\w.grownBy w' v.ownBlock:=by
 have hlen:(Zd l).length=l.length:=List.length_mergeSort l;rcases hv.2 with⟨rfl,h0⟩|⟨g,cap,cur,rfl,hb,hg,hnc,hcm,hcs,htake⟩
 ·have e0:l=[]:=wek h0;subst e0;exact(Tryz.slices_Sort_int_none none 0 w).mono λe w'⟨he,hw⟩=>by subst hw;exact⟨he,by rw[show Zd []=[]from by simp[Zd]];exact World.ownsRow_nil _ _ _ _,⟨rfl,rfl,rfl,weh _,λ_ _ _=>rfl⟩⟩
 ·have hlt:g<w.heap.size:=(wew.1 hg).1;obtain⟨g',cap',e1,_,_,_,_,_,hH⟩:=Lib.holds_of_ownsRow (enc:=Value.int .i64) hv (by simp);cases e1;refine(Tryz.slices_Sort_int g 0 cap l w hH hlt (by omega)).mono ?_;rintro e w' ⟨he,n,os,rfl⟩;exact⟨he,ownsRow_sortedI (n:=n) (os:=os) (ts:=Zd l) hlen hb hg hnc hcm hcs,grownBy_sortedI _⟩
theorem z0c(v:Value)(l:List Int)(B:Nat)(w:World)(hv:w.ownsRow B 3 1 v l.length (l.map (.int .i64)))(hl:l.length<=10000000):
  Calls Tryz.prog 164 #[v] w λe w'=>∃v',e=.returned v'/\w'.ownsRow B 3 1 v' (Qj l).length ((Qj l).map (.int .i64))/\w.grownBy w' v.ownBlock/\∀g,qc v'=some g->qc v=some g:=by
 have hle:(Lib.compact l).length<=l.length:=Lib.compact_length_le l;rcases hv.2 with⟨rfl,h0⟩|⟨g,cap,cur,rfl,hb,hg,hnc,hcm,hcs,htake⟩
 ·have e0:l=[]:=wek h0;subst e0;exact(Tryz.slices_Compact_int_empty none 0 w).mono λe w'⟨he,hw⟩=>by subst hw;exact⟨_,he,World.ownsRow_nil _ _ _ _,⟨rfl,rfl,rfl,weh _,λ_ _ _=>rfl⟩,λg hg=>hg⟩
 ·obtain⟨g',cap',e1,_,_,_,_,_,hH⟩:=Lib.holds_of_ownsRow (enc:=Value.int .i64) hv (by simp);cases e1;refine(Tryz.slices_Compact_int g 0 cap l w hH (by omega) hnc).mono ?_;rintro e w' ⟨he,q,rfl⟩;refine⟨_,he,?_,?_,λg hg=>hg⟩
  ·have h:=Lib.ownsRow_putRow (q:=q) (k:=(Lib.compact l).length) (ys:=Lib.compact l++List.replicate (l.length-(Lib.compact l).length) 0) hv (by simp;omega) hle;rw[List.take_left]at h;exact h
  ·refine⟨rfl,rfl,rfl,by simp[Sort.putRow,Sort.mapBlock,Sort.ahead],λk hk hne=>?_⟩;have:g≠k:=λe=>hne (by rw[<- e];rfl);simp[Sort.putRow,Sort.mapBlock,Sort.ahead,Array.getElem?_modify,this]
section
variable{W:Env}{n:Nat}{H:PHeap}{F:PFrame}{ops:Array Oper}{o:Oper}{l:List Oper}{K:PFrame → PHeap → Prop}{x:Operand}{ts:Array TypeId}
theorem wch{f:FuncId}{id ver d:Nat}{xs ys:List Int}{back:Bool}{k:PV->PHeap->Prop}(ho:o.op=.call ⟨.value (.func f),#[x],ts⟩)(hd:jo n o)(hf:yx Tryz.prog f=true)(hx:evP F x=.ps id ver)(hH:H id=⟨ver,some (.row 3 1 xs.length (xs.map I))⟩)
  (hc:∀(v:Value)(B:Nat)(w:World),w.ownsRow B 3 1 v xs.length (xs.map (.int .i64))->Calls Tryz.prog f #[v] w λe w'=>∃r v',e=.returned r/\w'.ownsRow B 3 1 v' ys.length (ys.map (.int .i64))/\w.grownBy w' v.ownBlock/\(∀g,qc v'=some g->qc v=some g)/\(if back=true then r=v' else v'=v/\r=.tuple #[]))
  (hk:if back=true then k (.ps id (ver+1)) (H.set id ⟨ver+1,some (.row 3 1 ys.length (ys.map I))⟩)else k (.u (.tuple #[])) (H.set id ⟨ver,some (.row 3 1 ys.length (ys.map I))⟩)):PE Tryz.prog W n o F H k:=λV a w hr=>by
 have hb:(H id).body=some (.row 3 1 xs.length (xs.map I)):=by rw[hH]
 have hve:(H id).ver=ver:=by rw[hH]
 obtain⟨vals,hown,hR,h1⟩:=hr.heap.row id _ _ _ _ hb;have hvals:=us_of hR;subst hvals;have ht:yr F ⟨.value (.func f),#[x],ts⟩=some (f,[.ps id ver]):=by rw[Yg];simp[hx]
 obtain⟨vs,he,hRv⟩:=Qz (P:=Tryz.prog) (W:=W) (H:=H) (V:=V) (a:=a) (w:=w) ho ht hf λx hx'=>Rp.eval (P:=Tryz.prog) x λt ht=>hr.slot t;obtain⟨v,rfl,hv⟩:=rpl1 hRv;have hvV:v=V id:=by
  cases hv with
  |ps _ _ _ hvv hh=>exact hh (by rw[hb];rfl) hve
 subst hvV;have hob:=Q6 hown;refine zc0 he ((hc (V id) _ w hown).mono λe w'⟨r,v',h2,h3,h4,h5,h6⟩=>⟨r,h2,?_⟩);have hbase:∀nv,(H id).ver<nv\/(nv=(H id).ver/\v'=V id)->Turn W H V w id ⟨nv,some (.row 3 1 ys.length (ys.map I))⟩ v' w':=λnv hnv=>by
  refine⟨hr.heap.below.grown h4 hr.heap.below.size λkk hk=>(hown.lt kk hk).1,h4.size,λbb hlt hn=>h4.block bb hlt λe'=>hn ⟨by rw[hb];rfl,by rw[<- hob];exact e'.symm⟩,λg hg=> .inr ⟨by rw[hb];rfl,h5 g hg⟩,?_⟩;rcases hnv with h|⟨h,h'⟩
  ·exact .inl h
  ·exact .inr ⟨h,h',by rw[hb];rfl⟩
 cases back
 ·simp only[we4,if_false]at h6 hk;obtain⟨rfl,rfl⟩:=h6;refine⟨_,_,yf V id (V id),hk,hr.turn (hbase ver (.inr ⟨hve.symm,rfl⟩)) (λbd hbd=>?_) o.dst hd (.u _)⟩;cases hbd;exact⟨_,h3,jcg ys,λu hu=>by obtain⟨z,_,rfl⟩:=wef.1 hu;rfl⟩
 ·simp only[if_true]at h6 hk;subst h6;refine⟨_,_,yf V id r,hk,hr.turn (hbase (ver+1) (.inl (by omega))) (λbd hbd=>?_) o.dst hd ?_⟩
  ·cases hbd;exact⟨_,h3,jcg ys,λu hu=>by obtain⟨z,_,rfl⟩:=wef.1 hu;rfl⟩
  ·refine .ps _ _ _ ?_ λ_ _=>?_
   ·simp[PHeap.set]
   ·simp[yf]
theorem zvb{xs:List Int}(hl:xs.length<=10000000):zpp Tryz.prog 174 [slI xs] 3 1 (λn us=>n=xs.length/\us=xs.map (.int .i64)):=λw vs h=>by
 obtain⟨v,rfl,hv⟩:=rpl1 h;exact(z7f v xs w (rd_of (λ_=>rfl) hv) hl).mono λe w'⟨v',h1,h2,h3⟩=>⟨v',_,_,h1,⟨rfl,rfl⟩,h2,λu hu=>by obtain⟨z,_,rfl⟩:=wef.1 hu;rfl,h3⟩
theorem wdg{xs ys:List Int}{d:Nat}(id:Nat)(hg:o.guard=none)(ho:o.op=.call ⟨.value (.func 174),#[x],ts⟩)(hd:o.dst=some d)(hdn:d<n)(hx:evP F x=slI xs)(hs:small7 xs xs=some ys)
  (h:∀q' H',ownL 3 1 I H' id q' ys->(∀j,j≠id->H' j=H j)->PL Tryz.prog W n ops l (F.put (some d) q') H' K):PL Tryz.prog W n ops (o::l) F H K:=by
 obtain⟨hl,rfl⟩:=zcw hs;exact PL.ownG id hg ho hd hdn (by kernel_rfl) (am hx am0) (zdk (zc5 _) zf3) (zvb hl) (λ_=>rfl) (λ_=>rfl) h
end
end Go.Proofs.YtdllbdlnmjngcaaGreat
namespace Go.Proofs.YtdllbdlnmjngcaaGreat.L
set_option maxRecDepth 100000
set_option maxHeartbeats 8000000
set_option linter.unusedVariables false
set_option linter.unusedSimpArgs false
open Go Go.RowKit Go.Proofs.YtdllbdlnmjngcaaGreat
def Weak(p q:PV):Prop:=∀(Z:ZM)(H:PHeap)(V:Nat->Value)(w:World)(v:Value),Rp Z H V w p v->Rp Z H V w q v
theorem Weak.nil(k:Nat):Weak (.u (.slice none 0 0)) (.sl k []):=λ_ _ _ _ _ h=>by cases h;exact .nil _ _ _
def WeakL(ps qs:List PV):Prop:=ps.length=qs.length/\∀(i:Nat)(p q:PV),ps[i]?=some p->qs[i]?=some q->Weak p q
theorem WeakL.nil:WeakL [] []:=⟨rfl,λi p q h=>by simp at h⟩
theorem WeakL.cons{p q:PV}{ps qs:List PV}(h:Weak p q)(hs:WeakL ps qs):WeakL (p::ps) (q::qs):=⟨by simp[hs.1],λi p' q' h1 h2=>by
 cases i with
 |zero=>simp at h1 h2;subst h1 h2;exact h
 |succ i=>exact hs.2 i p' q' (by simpa using h1) (by simpa using h2)⟩
section
variable{P:Program}{W:Env}{n:Nat}{H:PHeap}{F:PFrame}{ops:Array Oper}{o:Oper}{l:List Oper}{K:PFrame → PHeap → Prop}
variable{d ty:Nat}{pos:String}{af:Array Edge}{g:Option (Nat × Bool)}{x y:Operand}{t t' : Nat}
theorem Rp.same{Z:ZM}{V:Nat->Value}{w:World}{H':PHeap}(hs:∀i,(H' i).ver=(H i).ver/\(H' i).body.isSome=(H i).body.isSome){p:PV}{v:Value}(h:Rp Z H V w p v):Rp Z H' V w p v:=
 h.mono (λb hb hlt=>⟨λhz=>hb (hz.imp id λ⟨i,h1,h2⟩=>⟨i,by rw[<- (hs i).2];exact h1,h2⟩),hlt,rfl⟩) (weh _) (λi=>Nat.le_of_eq (hs i).1.symm) (λi ver _ h1 h2=>⟨by rw[<- (hs i).2];exact h1,by rw[<- (hs i).1];exact h2,rfl⟩)
theorem HRel.recell{V:Nat->Value}{w:World}{id v T:Nat}{cs cs':List PV}(hr:HRel P W H V w)(hH:H id=⟨v,some (.box T cs)⟩)(hc:∀vs,RpL W.Z H V w cs vs->RpL W.Z H V w cs' vs):HRel P W (H.set id ⟨v,some (.box T cs')⟩) V w:=by
 have hs:∀i,((H.set id ⟨v,some (.box T cs')⟩) i).ver=(H i).ver/\((H.set id ⟨v,some (.box T cs')⟩) i).body.isSome=(H i).body.isSome:=λi=>by
  by_cases e:i=id
  ·subst e;simp[PHeap.set,hH]
  ·simp[PHeap.set,e]
 refine⟨hr.below,λi t k m cs2 h=>?_,λi t cs2 h=>?_,λi p cs3 φ h=>?_,λi=>(hr.ghost i).same hs,λi j g h1 h2=>hr.apart i j g (by rw[<- (hs i).2];exact h1) (by rw[<- (hs j).2];exact h2),hr.zlt,λi b h1=>hr.nz i b (by rw[<- (hs i).2];exact h1)⟩
 ·have e:i≠id:=λe=>by subst e;simp[PHeap.set]at h
  obtain⟨vals,ho,hR,h1⟩:=hr.row i t k m cs2 (by simpa [PHeap.set,e]using h);exact⟨vals,ho,hR.mono λp u hp=>hp.same hs,h1⟩
 ·by_cases e:i=id
  ·subst e;simp[PHeap.set]at h;obtain⟨rfl,rfl⟩:=h;obtain⟨g,arr,e1,hg,hh,hR,h1⟩:=hr.box i T cs (by rw[hH]);exact⟨g,arr,e1,hg,hh,(hc _ hR).mono λp u hp=>hp.same hs,h1⟩
  ·obtain⟨g,arr,e1,hg,hh,hR,h1⟩:=hr.box i t cs2 (by simpa [PHeap.set,e]using h);exact⟨g,arr,e1,hg,hh,hR.mono λp u hp=>hp.same hs,h1⟩
 ·have e:i≠id:=λe=>by subst e;simp[PHeap.set]at h
  obtain⟨g,o,vs,e1,hg,hh,h1,hR⟩:=hr.map i p cs3 φ (by simpa [PHeap.set,e]using h);exact⟨g,o,vs,e1,hg,hh,h1,hR.mono λp u hp=>hp.same hs⟩
theorem Rel.recell{V:Nat->Value}{a:Act}{w:World}{id v T:Nat}{cs cs':List PV}(hr:Rel P W n F H V a w)(hH:H id=⟨v,some (.box T cs)⟩)(hc:∀vs,RpL W.Z H V w cs vs->RpL W.Z H V w cs' vs):Rel P W n F (H.set id ⟨v,some (.box T cs')⟩) V a w:=by
 refine⟨hr.heap.recell hH hc,hr.size,hr.defers,λi=>(hr.slot i).same λi=>?_⟩;by_cases e:i=id
 ·subst e;simp[PHeap.set,hH]
 ·simp[PHeap.set,e]
theorem PL.recell{id v T:Nat}{cs cs':List PV}(hH:H id=⟨v,some (.box T cs)⟩)(hw:WeakL cs cs')(h:∀H',H' id=⟨v,some (.box T cs')⟩->(∀j,j≠id->H' j=H j)->PL P W n ops l F H' K):PL P W n ops l F H K:=λV a w Q hr hQ=>by
 refine h (H.set id ⟨v,some (.box T cs')⟩) (by simp[PHeap.set]) (λj hj=>by simp[PHeap.set,hj]) V a w Q (hr.recell hH λvs hvs=>⟨by rw[<- hw.1];exact hvs.1,λi q u h1 h2=>?_⟩) hQ;have hi:i<cs.length:=by rw[hw.1];exact(wd5.1 h1).1
 exact hw.2 i _ q (wd2 hi) h1 _ _ _ _ _ (hvs.2 i _ u (wd2 hi) h2)
end
end Go.Proofs.YtdllbdlnmjngcaaGreat.L
namespace Go.Proofs.YtdllbdlnmjngcaaGreat
set_option maxRecDepth 100000
set_option maxHeartbeats 8000000
set_option linter.unusedVariables false
set_option linter.unusedSimpArgs false
open Go Go.RowKit L
section
variable{P:Program}{W:Env}{n:Nat}{H:PHeap}{F:PFrame}{ops:Array Oper}{o:Oper}{l:List Oper}{K:PFrame → PHeap → Prop}
variable{d ty:Nat}{pos:String}{af:Array Edge}{g:Option (Nat × Bool)}{x y:Operand}{t t' : Nat}
theorem z72{α:Type}{e k id:Nat}{rep:α->PV}{q:PV}{xs:List α}(h:ownL e k rep H id q xs):q.cells=[q]:=by
 rcases h.2 with⟨rfl,_⟩|⟨v,rfl,_⟩<;>rfl
theorem own_ok{α:Type}{e k id:Nat}{rep:α->PV}{q:PV}{xs:List α}(h:ownL e k rep H id q xs):okC H q=true:=by
 have:=OwnS.leaf h;rcases h.2 with⟨rfl,_⟩|⟨v,rfl,_⟩<;>exact this
end
end Go.Proofs.YtdllbdlnmjngcaaGreat
namespace Go.Proofs.YtdllbdlnmjngcaaGreat.L
set_option maxRecDepth 100000
set_option maxHeartbeats 8000000
set_option linter.unusedVariables false
set_option linter.unusedSimpArgs false
open Go Go.RowKit
structure zkd{α:Type}(P:Program)(key:TypeId)(kv:α->Value)(eqb:α->α->Bool):Prop where
 chk:∀(b:Bool)(k:α)(w:World),(Instr.checkKey b 10000 key (kv k)).run P w=.ok () w
 und:∃d,P.underlying key=some d/\∀k k',Instr.sameNow d (kv k) (kv k')=none\/Instr.sameNow d (kv k) (kv k')=some (eqb k k')
 eq:∀(k k':α)(w:World),(Op.equal key (kv k) (kv k')).run P w=.ok (eqb k k') w
 beq:∀k k',eqb k k'=true->k=k'
 bits:∀k,Instr.sameBits 10000 (kv k) (kv k)=true
def Yk{α β:Type}(eqb:α->α->Bool)(k:α):List (α×β)->Nat->Option (Nat×β)
 |[],_=>none
 |e::es,i=>if eqb k e.1 then some (i,e.2)else Yk eqb k es (i+1)
def zxi{α β:Type}(eqb:α->α->Bool)(l:List (α×β))(k:α):Option β:=(Yk eqb k l 0).map (·.2)
def jeh{α β:Type}(eqb:α->α->Bool)(l:List (α×β))(k:α)(v:β):List (α×β):=
 match Yk eqb k l 0 with
 |some (i,_)=>l.modify i λe=>(k,v)
 |none=>l++[(k,v)]
section
variable{P:Program}{α β:Type}{key elem:TypeId}{kv:α → Value}{vv:β → Value}{eqb:α → α → Bool}
theorem zva{d:TypeDesc}(hs:∀k k',Instr.sameNow d (kv k) (kv k')=none\/Instr.sameNow d (kv k) (kv k')=some (eqb k k'))(k:α):∀(es:List MapEntry)(l:List (α×β))(i:Nat),es.map (λe=>(e.key,e.val))=l.map (λe=>(kv e.1,vv e.2)) ->
  Instr.findNow d (kv k) es i=none\/Instr.findNow d (kv k) es i=some ((Yk eqb k l i).map λr=>(r.1,vv r.2))
 |[],[],i,_ => .inr rfl
 |e::es,x::l,i,h=>by
  simp only[wen,List.cons.injEq,wgx]at h;obtain⟨⟨h1,h2⟩,h3⟩:=h;unfold Instr.findNow Yk;rw[h1,h2];rcases hs k x.1 with h4|h4<;>rw[h4]
  ·exact .inl rfl
  ·cases eqb k x.1
   ·exact zva hs k es l (i+1) h3
   ·exact .inr rfl
theorem zj5(he:∀(k k':α)(w:World),(Op.equal key (kv k) (kv k')).run P w=.ok (eqb k k') w)(k:α)(w:World):∀(es:List MapEntry)(l:List (α×β))(i:Nat),es.map (λe=>(e.key,e.val))=l.map (λe=>(kv e.1,vv e.2)) ->
  (Instr.findAsking key (kv k) es i).run P w=.ok ((Yk eqb k l i).map λr=>(r.1,vv r.2)) w
 |[],[],i,_=>rfl
 |e::es,x::l,i,h=>by
  simp only[wen,List.cons.injEq,wgx]at h;obtain⟨⟨h1,h2⟩,h3⟩:=h;unfold Instr.findAsking Yk;rw[h1,h2];simp only[Sem.run_bind,he,Result.andThen_ok];cases eqb k x.1
  ·simpa using zj5 he k w es l (i+1) h3
  ·rfl
theorem zde(K:zkd P key kv eqb)(k:α)(w:World){es:List MapEntry}{l:List (α×β)}(h:es.map (λe=>(e.key,e.val))=l.map (λe=>(kv e.1,vv e.2))):
  (Instr.findKey key (kv k) es).run P w=.ok ((Yk eqb k l 0).map λr=>(r.1,vv r.2)) w:=by
 obtain⟨d,hd,hs⟩:=K.und;unfold Instr.findKey;rw[Sem.run_bind,run_underlying hd,Result.andThen_ok];rcases zva (vv:=vv) hs k es l 0 h with h1|h1
 ·rw[h1];exact zj5 K.eq k w es l 0 h
 ·rw[h1];rfl
theorem zx5(K:zkd P key kv eqb){t:TypeId}(ht:P.underlying t=some (.map key elem)){zb:β}(hz:∀w,(zeroValue elem).run P w=.ok (vv zb) w)(k:α){w:World}{b:Nat}{arr:Array MapEntry}{clock:Nat}{l:List (α×β)}(hb:w.heap[b]?=some (.map arr clock))(h:arr.toList.map (λe=>(e.key,e.val))=l.map (λe=>(kv e.1,vv e.2)))(ok:Bool):
  (Instr.lookup t (.map (some b)) (kv k) ok).run P w=.ok (if ok then .tuple #[vv ((zxi eqb l k).getD zb),.bool (zxi eqb l k).isSome]else vv ((zxi eqb l k).getD zb)) w:=by
 have h1:=zde K k w h;have h2:=K.chk arr.isEmpty k w;unfold zxi;cases hf:Yk eqb k l 0 with
 |none=>rw[hf]at h1;simp[Instr.lookup,run_underlying ht,MapKept.run_getObj_map hb,h2,h1,hz]
 |some r=>rw[hf]at h1;simp[Instr.lookup,run_underlying ht,MapKept.run_getObj_map hb,h2,h1]
theorem z1f{eqb:α->α->Bool}{k:α}:∀{l:List (α×β)}{i:Nat}{r:Nat×β},Yk eqb k l i=some r->∃e,l[r.1-i]?=some e/\i<=r.1/\eqb k e.1=true
 |[],i,r,h=>by cases h
 |e::es,i,r,h=>by
  unfold Yk at h;split at h
  ·rename_i he;cases h;exact⟨e,by simp,weh _,he⟩
  ·obtain⟨e',h1,h2,h3⟩:=z1f h;exact⟨e',by rw[show r.1-i=(r.1-(i+1))+1 by omega];simpa using h1,by omega,h3⟩
theorem zod(K:zkd P key kv eqb){t:TypeId}(ht:P.underlying t=some (.map key elem))(k:α)(v:β){w:World}{b:Nat}{arr:Array MapEntry}{clock:Nat}{l:List (α×β)}(hb:w.heap[b]?=some (.map arr clock))(h:arr.toList.map (λe=>(e.key,e.val))=l.map (λe=>(kv e.1,vv e.2))):
  ∃arr' clock',(Instr.mapUpdate t (.map (some b)) (kv k) (vv v)).run P w=.ok () { w with heap:=w.heap.setIfInBounds b (.map arr' clock') }/\arr'.toList.map (λe=>(e.key,e.val))=(jeh eqb l k v).map (λe=>(kv e.1,vv e.2)):=by
 have h1:=zde K k w h;have h2:=K.chk false k w;unfold jeh;cases hf:Yk eqb k l 0 with
 |none=>
  rw[hf]at h1;refine⟨arr.push { key:=kv k,val:=vv v,born:=clock },clock+1,by simp[Instr.mapUpdate,run_underlying ht,MapKept.run_getObj_map hb,h2,h1,MapKept.run_setObj_map _ hb],?_⟩;simp[h]
 |some r=>
  obtain⟨i,x⟩:=r;rw[hf]at h1;obtain⟨e,h3,_,h4⟩:=z1f hf;simp only[Nat.sub_zero]at h3;have hke:=K.beq _ _ h4;have hai:arr.toList[i]?.map (λe=>(e.key,e.val))=some (kv e.1,vv e.2):=by
   rw[<- web,h,web,h3];rfl
  obtain⟨ae,hae,hae2⟩:=wee.1 hai;simp only[wgx]at hae2;have hae':arr[i]?=some ae:=by simpa using hae
  refine⟨arr.modify i λe=>{ e with key:=kv k,val:=vv v },clock,?_,?_⟩
  ·have hks:(Instr.keyThatStays (kv e.1) (kv k)).run P w=.ok (kv k) w:=by
    rw[<- hke];simp[Instr.keyThatStays,K.bits]
   simp[Instr.mapUpdate,run_underlying ht,MapKept.run_getObj_map hb,h2,h1,hae',hae2.1,hks,MapKept.run_setObj_map _ hb]
  ·apply wfj;intro j;have hj:(arr.toList[j]?).map (λe=>(e.key,e.val))=(l[j]?).map (λe=>(kv e.1,vv e.2)):=by rw[<- web,<- web,h]
   simp only[Array.toList_modify,web,List.getElem?_modify];cases ha:arr.toList[j]? with
   |none=>rw[ha]at hj;cases hl:l[j]? with
    |none=>rfl
    |some y=>rw[hl]at hj;cases hj
   |some y=>
    rw[ha]at hj;cases hl:l[j]? with
    |none=>rw[hl]at hj;cases hj
    |some z=>
     rw[hl]at hj;simp only[wer,we6,wgx]at hj;by_cases hij:i=j
     ·simp[hij]
     ·simp[hij,hj]
end
section
variable{P:Program}
theorem zaw{d:Nat}{t:TypeId}{D:TypeDesc}{x y:Value}{r:Bool}(ht:P.underlying t=some D)(h:Instr.sameNow D x y=some r)(w:World):(Op.equalIn (d+1) t x y).run P w=.ok r w:=by
 unfold Instr.sameNow at h;split at h
 ·split at h
  ·rename_i hk;cases h;subst hk;simp[Op.equalIn,run_underlying ht]
  ·cases h
 ·cases h;simp[Op.equalIn,run_underlying ht]
 ·cases h;simp[Op.equalIn,run_underlying ht]
 ·cases h
theorem zl3{D:TypeDesc}{x y:Value}{r:Bool}(h:Instr.sameNow D x y=some r):zmh D=false:=by
 unfold Instr.sameNow at h;split at h<;>first|rfl|cases h
def Z1(P:Program)(xs ys:Array Value)(f:Field):Option Bool:=
 if f.name = "_" then none else
 match P.underlying f.type,xs[f.offset]?,ys[f.offset]? with
 |some d,some x,some y=>Instr.sameNow d x y
 |_,_,_=>none
def eqS(P:Program)(t:TypeId)(xs ys:Array Value):Option (List Bool):=
 match P.underlying t with
 |some (.struct fs)=>if P.stoodInHeld t then none else fs.toList.mapM (Z1 P xs ys)
 |_=>none
theorem zb3{t:TypeId}{D:TypeDesc}(ht:P.underlying t=some D)(ha:zmh D=false){cs:Array Value}{i:Nat}{v:Value}(h:cs[i]?=some v)(w:World):(part t cs i).run P w=.ok v w:=by
 unfold part;rw[Sem.run_bind,zuo ht];simp[ha,h]
theorem zkh {xs ys : Array Value} {f : Field} {r : Bool} (h : Z1 P xs ys f = some r) : f.name ≠ "_" ∧ ∃ D x y, P.underlying f.type = some D ∧ zmh D = false ∧ xs[f.offset]? = some x ∧ ys[f.offset]? = some y ∧ Instr.sameNow D x y = some r := by
 unfold Z1 at h;split at h
 ·cases h
 ·rename_i hn;refine⟨hn,?_⟩;split at h
  ·rename_i D x y h1 h2 h3;exact⟨D,x,y,h1,zl3 h,h2,h3,h⟩
  ·cases h
theorem zjr{xs ys:Array Value}{d:Nat}(w:World):∀(fs:List Field)(es:List Bool),fs.mapM (Z1 P xs ys)=some es->(Op.eqFields (d+1) xs ys fs).run P w=.ok (es.all id) w
 |[],es,h=>by
  simp at h;subst h;simp[Op.eqFields]
 |f::fs,es,h=>by
  rw[wgl]at h;cases h1:Z1 P xs ys f with
  |none=>rw[h1]at h;cases h
  |some r=>
   rw[h1]at h;cases h2:fs.mapM (Z1 P xs ys)with
   |none=>rw[h2]at h;cases h
   |some rs=>
    rw[h2]at h;cases h;obtain⟨hn,D,x,y,hD,hp,hx,hy,hs⟩:=zkh h1;unfold Op.eqFields;rw[if_pos hn];simp only[Sem.run_bind,zb3 hD hp hx,zb3 hD hp hy,zaw hD hs,Result.andThen_ok];cases r
    ·simp
    ·simpa using zjr w fs rs h2
theorem zqo{t:TypeId}{xs ys:Array Value}{es:List Bool}(h:eqS P t xs ys=some es):∃fs,P.underlying t=some (.struct fs)/\P.stoodInHeld t=false/\fs.toList.mapM (Z1 P xs ys)=some es:=by
 unfold eqS at h;split at h
 ·rename_i fs hu;split at h
  ·cases h
  ·rename_i hs;exact⟨fs,hu,by simpa using hs,h⟩
 ·cases h
theorem z5i{t:TypeId}{xs ys:Array Value}{es:List Bool}(h:eqS P t xs ys=some es)(w:World)(d:Nat):(Op.equalIn (d+2) t (.agg xs) (.agg ys)).run P w=.ok (es.all id) w:=by
 obtain⟨fs,hu,hs,he⟩:=zqo h;have hf:P.fieldsOf t=fs:=by unfold Program.fieldsOf;rw[hu]
 rw[run_equalIn_struct w (d+1) t xs ys (by rw[hf];exact hu) hs,hf];exact zjr w _ _ he
theorem jfo{α:Type}{t:TypeId}{kc:α->Array Value}{eb:α->α->List Bool}(a0:α)(h:∀a b,eqS P t (kc a) (kc b)=some (eb a b))(hb:∀a b,(eb a b).all id=true->a=b)(hbits:∀a,Instr.sameBits 10000 (.agg (kc a)) (.agg (kc a))=true):zkd P t (λa=> .agg (kc a)) (λa b=>(eb a b).all id) where
 chk:=λb k w=>by
  obtain⟨fs,hu,hs,he⟩:=zqo (h k k);unfold Instr.checkKey;simp only[Sem.run_bind,run_underlying hu,Result.andThen_ok];rw[<- Array.forIn_toList];have key : ∀ (l : List Field) (es : List Bool), l.mapM (Z1 P (kc k) (kc k)) = some es → ∀ (n : Nat), (forIn l PUnit.unit fun f (_ : PUnit) => (if f.name ≠ "_" then do Instr.checkKey b (n + 1) f.type (← part f.type (kc k) f.offset); pure (ForInStep.yield PUnit.unit) else pure (ForInStep.yield PUnit.unit) : Sem (ForInStep PUnit))).run P w = .ok PUnit.unit w := by
   intro l;induction l with
   |nil=>intro es _ n;simp
   |cons f l ih=>
    intro es hm n;rw[wgl]at hm;cases h1:Z1 P (kc k) (kc k) f with
    |none=>rw[h1]at hm;cases hm
    |some r=>
     rw[h1]at hm;cases h2:l.mapM (Z1 P (kc k) (kc k))with
     |none=>rw[h2]at hm;cases hm
     |some rs=>
      obtain⟨hn,D,x,y,hD,hp,hx,hy,hsn⟩:=zkh h1;have hc:(Instr.checkKey b (n+1) f.type x).run P w=.ok () w:=by
       unfold Instr.checkKey;simp only[Sem.run_bind,run_underlying hD,Result.andThen_ok];unfold Instr.sameNow at hsn;split at hsn<;>first|rfl|cases hsn
      rw[List.forIn_cons,if_pos hn];simp only[Sem.run_bind,zb3 hD hp hx,hc,Result.andThen_ok,Sem.run_pure];exact ih rs h2 n
  have:=key _ _ he 9998;simp only[Nat.reduceAdd]at this;rw[this];rfl
 und:=by
  obtain⟨fs,hu,_,_⟩:=zqo (h a0 a0);exact⟨_,hu,λk k'=> .inl rfl⟩
 eq:=λa b w=>z5i (h a b) w 9998
 beq:=hb
 bits:=hbits
theorem zr8(c:Nat->Bool)(body:Nat->Option Bool×Unit->Sem (ForInStep (Option Bool×Unit)))(w:World):∀(l:List Nat),(∀i∈l,(body i (none,())).run P w=.ok (if c i then .yield (none,())else .done (some false,())) w) ->
  (forIn l ((none,()):Option Bool×Unit) body).run P w=.ok (if l.all c then none else some false,()) w
 |[],_=>by simp
 |i::l,h=>by
  rw[List.forIn_cons,Sem.run_bind,h i (by simp)];cases hc:c i
  ·simp[hc]
  ·simpa [hc]using zr8 c body w l λj hj=>h j (by simp[hj])
theorem je3{t e:TypeId}{n:Nat}{D:TypeDesc}{xs ys:Array Value}{c:Nat->Bool}(hu:P.underlying t=some (.array n e))(hD:P.underlying e=some D)(hs:∀w,(sizeOf e).run P w=.ok 1 w)(h:∀i,i<n->∃x y,xs[i]?=some x/\ys[i]?=some y/\Instr.sameNow D x y=some (c i))(w:World)(d:Nat):
  (Op.equalIn (d+2) t (.agg xs) (.agg ys)).run P w=.ok ((List.range n).all c) w:=by
 rw[Op.equalIn];simp only[Sem.run_bind,run_underlying hu,Result.andThen_ok,hs];rw[Std.Legacy.Range.forIn_eq_forIn_range'];have e1:List.range' ([:n]:Std.Legacy.Range).start ([:n]:Std.Legacy.Range).size ([:n]:Std.Legacy.Range).step=List.range n:=by
  simp[Std.Legacy.Range.size,List.range_eq_range']
 rw[e1];have h2:=zr8 (P:=P) c (λi r=>do
   if(!(<- Op.equalIn (d+1) e (<- part e xs (i*1)) (<- part e ys (i*1))))=true then pure (ForInStep.done (some false,()))else pure (ForInStep.yield (none,()))) w (List.range n) λi hi=>by
  obtain⟨x,y,hx,hy,hsn⟩:=h i (wf7.1 hi);simp only[wgu,Sem.run_bind,zb3 hD (zl3 hsn) hx,zb3 hD (zl3 hsn) hy,zaw hD hsn,Result.andThen_ok];cases c i<;>simp
 rw[h2];cases(List.range n).all c<;>simp
end
end Go.Proofs.YtdllbdlnmjngcaaGreat.L
namespace Go.Proofs.YtdllbdlnmjngcaaGreat
set_option maxRecDepth 100000
set_option maxHeartbeats 8000000
set_option linter.unusedVariables false
set_option linter.unusedSimpArgs false
open Go Go.RowKit L
section
variable{P:Program}{W:Env}{n:Nat}{H:PHeap}{F:PFrame}{ops:Array Oper}{o:Oper}{l:List Oper}{K:PFrame → PHeap → Prop}
variable{d ty t' : Nat}{pos:String}{af:Array Edge}{g:Option (Nat × Bool)}{x y:Operand}{t:Nat}
theorem z6n{a b:List Int}{n:Nat}(ha:a.length=n)(hb:b.length=n):((List.range n).all λi=>a.getD i 0 == b.getD i 0)=(a == b):=by
 rw[Bool.eq_iff_iff,we0,beq_iff_eq];constructor
 ·intro h;apply whb (by omega);intro i h1 h2;have:=h i (wf7.2 (by omega));simpa [List.getD,h1,h2]using this
 ·intro h i _;rw[h];simp
theorem jbc{e m:Nat}{kd:IntKind}(hu:P.underlying t=some (.array m e))(hD:P.underlying e=some (.int kd))(hs:∀w,(sizeOf e).run P w=.ok 1 w)(a b:Arr m Int)(w:World):
  (Op.equal t (.agg (a.1.map (Value.int kd)).toArray) (.agg (b.1.map (Value.int kd)).toArray)).run P w=.ok (a.1 == b.1) w:=by
 have h:=je3 (P:=P) (c:=λi=>a.1.getD i 0 == b.1.getD i 0) (xs:=(a.1.map (Value.int kd)).toArray) (ys:=(b.1.map (Value.int kd)).toArray) hu hD hs (λi hi=>by
  have h1:i<a.1.length:=by rw[a.2];exact hi
  have h2:i<b.1.length:=by rw[b.2];exact hi
  exact⟨.int kd a.1[i],.int kd b.1[i],by simp[h1],by simp[h2],by simp[Instr.sameNow,List.getD,h1,h2]⟩) w 9998
 rw[z6n a.2 b.2]at h;exact h
def jd7(a b:ByteArray):Option ByteArray:=if((a.size+b.size:Nat):Int)<=9223372036854775807 then some (a++b)else none
theorem b_addS{a b r:ByteArray}(h:jd7 a b=some r):yg P .add t x y (.u (.string a)) (.u (.string b))=some (.u (.string r)):=by
 unfold jd7 at h;split at h
 ·rename_i hc;cases h;have:¬((a.size+b.size:Nat):Int) > IntKind.i64.max:=by simp only[IntKind.max,IntKind.bits]at *;omega
  simp only[yg,PV.val2,eqGuard,binOp,qi,qk,Op.stringOp,ofV,if_neg this];rfl
 ·cases h
def bltS(a b:ByteArray):Bool:=Op.bytesLess a.toList b.toList
theorem b_lssS(a b:ByteArray):yg P .lss t x y (.u (.string a)) (.u (.string b))=some (.u (.bool (bltS a b))):=by
 simp[yg,PV.val2,eqGuard,binOp,qi,qk,Op.stringOp,ofV,bltS]
def zw3(k:IntKind)(a b:Int):Option Int:=if b=0 then none else some (k.wrap (a.tdiv b))
def z1i(k:IntKind)(a b:Int):Option Int:=if b=0 then none else some (a.tmod b)
theorem b_quo{k:IntKind}{a b r:Int}(h:zw3 k a b=some r):yg P .quo t x y (.u (.int k a)) (.u (.int k b))=some (.u (.int k r)):=by
 unfold zw3 at h;split at h
 ·cases h
 ·rename_i hb;cases h;simp[yg,PV.val2,eqGuard,binOp,qi,qk,Op.intDiv,hb,ofV]
theorem b_rem{k:IntKind}{a b r:Int}(h:z1i k a b=some r):yg P .rem t x y (.u (.int k a)) (.u (.int k b))=some (.u (.int k r)):=by
 unfold z1i at h;split at h
 ·cases h
 ·rename_i hb;cases h;simp[yg,PV.val2,eqGuard,binOp,qi,qk,Op.intDiv,hb,ofV]
end
section
variable{P:Program}{x y:Operand}{t t' : Nat}
def jcf(k:IntKind)(a b:Int):Int:=k.wrap ((BitVec.ofInt k.bits a &&& BitVec.ofInt k.bits b).toNat)
def orI(k:IntKind)(a b:Int):Int:=k.wrap ((BitVec.ofInt k.bits a |||BitVec.ofInt k.bits b).toNat)
def xorI(k:IntKind)(a b:Int):Int:=k.wrap ((BitVec.ofInt k.bits a ^^^ BitVec.ofInt k.bits b).toNat)
def zxg(k:IntKind)(a b:Int):Int:=k.wrap ((BitVec.ofInt k.bits a &&& ~~~(BitVec.ofInt k.bits b)).toNat)
def z2k(k:IntKind)(a b:Int):Option Int:=if b<0 then none else some (k.wrap (a*2 ^ (min b.toNat k.bits)))
def zof(k:IntKind)(a b:Int):Option Int:=if b<0 then none else some (a.fdiv (2 ^ (min b.toNat k.bits)))
theorem b_and{k:IntKind}(a b:Int):yg P .and t x y (.u (.int k a)) (.u (.int k b))=some (.u (.int k (jcf k a b))):=by simp[yg,PV.val2,eqGuard,binOp,qi,qk,Op.intBits,ofV,jcf]
theorem b_or{k:IntKind}(a b:Int):yg P .or t x y (.u (.int k a)) (.u (.int k b))=some (.u (.int k (orI k a b))):=by simp[yg,PV.val2,eqGuard,binOp,qi,qk,Op.intBits,ofV,orI]
theorem b_xor{k:IntKind}(a b:Int):yg P .xor t x y (.u (.int k a)) (.u (.int k b))=some (.u (.int k (xorI k a b))):=by simp[yg,PV.val2,eqGuard,binOp,qi,qk,Op.intBits,ofV,xorI]
theorem jae{k:IntKind}(a b:Int):yg P .andNot t x y (.u (.int k a)) (.u (.int k b))=some (.u (.int k (zxg k a b))):=by simp[yg,PV.val2,eqGuard,binOp,qi,qk,Op.intBits,ofV,zxg]
theorem b_shl{k k':IntKind}{a b r:Int}(h:z2k k a b=some r):yg P .shl t x y (.u (.int k a)) (.u (.int k' b))=some (.u (.int k r)):=by
 unfold z2k at h;split at h
 ·cases h
 ·rename_i hb;cases h;simp[yg,PV.val2,eqGuard,binOp,qi,qk,Op.shift,hb,ofV]
theorem b_shr{k k':IntKind}{a b r:Int}(h:zof k a b=some r):yg P .shr t x y (.u (.int k a)) (.u (.int k' b))=some (.u (.int k r)):=by
 unfold zof at h;split at h
 ·cases h
 ·rename_i hb;cases h;simp[yg,PV.val2,eqGuard,binOp,qi,qk,Op.shift,hb,ofV]
end
section
variable{P:Program}{W:Env}{n:Nat}{H:PHeap}{F:PFrame}{ops:Array Oper}{o:Oper}{l:List Oper}{K:PFrame → PHeap → Prop}
theorem wc7{k:Nat}:View H (.u (.slice none 0 0)) (.sl k []):=λP W V w hr v hv=>by cases hv;exact .nil _ _ _
theorem ownL.view2{α:Type}{e k id:Nat}{rep:α->PV}{q:PV}{xs:List α}(h:ownL e k rep H id q xs)(hk:∀x,(rep x).cells.length=k)(hn:∀x,NoP (rep x)):View H q (.sl k (xs.map rep)):=by
 rcases h.2 with⟨rfl,h0⟩|⟨ver,rfl,hH⟩
 ·have:xs=[]:=wek h0;subst this;exact wc7
 ·refine View.row (t:=e) (n:=xs.length) (cs:=(xs.map rep).flatMap PV.cells) ?_ (xs.map rep) (by simp) (λy hy=>by obtain⟨z,_,rfl⟩:=wef.1 hy;exact hk z) λi p q h1 h2=>?_
  ·rw[zaj,hH,zjc,if_pos rfl]
  ·rw[h1]at h2;cases h2;obtain⟨y,hy,hp⟩:=wfe.1 (wd7 h1);obtain⟨z,_,rfl⟩:=wef.1 hy;exact View.noP ((hn z).cell hp)
theorem wc6{α:Type}{e id:Nat}{rep:α->PV}{enc:α->Value}{q:PV}{xs:List α}(ho:ownL e 1 rep H id q xs)(hrep:∀x,rep x=.u (enc x)):View H q (.fr e 1 (xs.map rep)):=by
 have h1:∀x,(rep x).cells=[rep x]:=λx=>by rw[hrep];rfl
 rcases ho.2 with⟨rfl,h0⟩|⟨ver,rfl,hH⟩
 ·have:xs=[]:=wek h0;subst this;exact wb0
 ·intro P W V w hr v hv;cases hv with
  |ps _ _ _ hvv hh=>
   have e:=hh (by rw[hH];rfl) (by rw[hH]);subst e;obtain⟨vals,hown,hR,hone⟩:=hr.row id _ _ _ _ (by rw[hH]);refine .fr e 1 _ (V id) vals (λy hy=>by obtain⟨z,_,rfl⟩:=wef.1 hy;rw[h1];rfl) ?_ (λb hb hz=>hr.nz id b (by rw[hH];rfl) hb (zi.1 hz)) hone λi p u h3 h4=>?_
   ·rw[wey];exact Y9 hown W.hm λb _ _=>rfl
   ·have h5:=hR.2 i p u h3 h4;rw[zaq h1]at h3;obtain⟨z,_,rfl⟩:=wef.1 (wd7 h3);rw[hrep]at h5⊢;cases h5;exact .u _
theorem jds{α:Type}{fn:Func}{ex:Exit}{e id:Nat}{rep:α->PV}{enc:α->Value}{q:PV}{xs:List α}(he:ex=.normal\/ex=.ret)(h:Qi P fn F H=some q)(ho:ownL e 1 rep H id q xs)(hrep:∀x,rep x=.u (enc x)):(ex=.normal\/ex=.ret)/\∃q p,Qi P fn F H=some q/\View H q p/\NoP p/\p=.fr e 1 (xs.map rep):=
 ⟨he,q,_,h,wc6 ho hrep,.fr _ _ _ λc hc=>by obtain⟨z,_,rfl⟩:=wef.1 hc;rw[hrep];exact .u _,rfl⟩
end
end Go.Proofs.YtdllbdlnmjngcaaGreat
namespace Go.Proofs.YtdllbdlnmjngcaaGreat.L
set_option maxRecDepth 100000
set_option maxHeartbeats 8000000
set_option linter.unusedVariables false
set_option linter.unusedSimpArgs false
open Go Go.RowKit
section
variable{P:Program}{W:Env}{n:Nat}{H:PHeap}{F:PFrame}
def PHeap.only(H:PHeap)(D:Nat->Bool):PHeap:=λi=>if D i then H i else⟨(H i).ver,none⟩
def PHeap.less(H:PHeap)(D:Nat->Bool):PHeap:=λi=>if D i then⟨(H i).ver+1,none⟩else H i
def Env.kept(W:Env)(H:PHeap)(V:Nat->Value)(D:Nat->Bool):Env:={ W with Z:=⟨λb=>W.Z b\/∃id,D id=false/\(H id).body.isSome=true/\qc (V id)=some b,W.Z.m⟩ }
theorem zhf{D:Nat->Bool}{i:Nat}{bd:PBody}(h:((H.only D) i).body=some bd):D i=true/\(H i).body=some bd:=by
 unfold PHeap.only at h;cases hD:D i
 ·simp[hD]at h
 ·simp only[hD,if_true]at h;exact⟨rfl,h⟩
theorem Zl{D:Nat->Bool}{i:Nat}(h:((H.only D) i).body.isSome=true):D i=true/\(H i).body.isSome=true:=by
 cases hb:((H.only D) i).body with
 |none=>rw[hb]at h;cases h
 |some bd=>obtain⟨h1,h2⟩:=zhf hb;exact⟨h1,by rw[h2];rfl⟩
theorem zdo{D:Nat->Bool}{i:Nat}{bd:PBody}(h:((H.less D) i).body=some bd):D i=false/\(H i).body=some bd:=by
 unfold PHeap.less at h;cases hD:D i
 ·simp only[hD]at h;exact⟨rfl,by simpa using h⟩
 ·simp[hD]at h
theorem Q8{D:Nat->Bool}{i:Nat}(h:((H.less D) i).body.isSome=true):D i=false/\(H i).body.isSome=true:=by
 cases hb:((H.less D) i).body with
 |none=>rw[hb]at h;cases h
 |some bd=>obtain⟨h1,h2⟩:=zdo hb;exact⟨h1,by rw[h2];rfl⟩
theorem Rp.only{D:Nat->Bool}{V:Nat->Value}{w:World}{p:PV}{v:Value}(h:Rp W.Z H V w p v):Rp (W.kept H V D).Z (H.only D) V w p v:=
 h.mono (λb hz hlt=>⟨λhz'=>by
  rcases hz' with(hz'|⟨id,_,h2,h3⟩)|⟨id,h2,h3⟩
  ·exact hz (.inl hz')
  ·exact hz (.inr ⟨id,h2,h3⟩)
  ·exact hz (.inr ⟨id,(Zl h2).2,h3⟩),hlt,rfl⟩) (weh _) (λid=>by unfold PHeap.only;split<;>exact weh _) (λid ver hv h1 h2=>by
  obtain⟨h3,h4⟩:=Zl h1;refine⟨h4,?_,rfl⟩;unfold PHeap.only at h2;rw[h3]at h2;simpa using h2)
theorem Rp.less{D:Nat->Bool}{V:Nat->Value}{w:World}{p:PV}{v:Value}(h:Rp W.Z H V w p v):Rp W.Z (H.less D) V w p v:=
 h.mono (λb hz hlt=>⟨λhz'=>by
  rcases hz' with hz'|⟨id,h2,h3⟩
  ·exact hz (.inl hz')
  ·exact hz (.inr ⟨id,(Q8 h2).2,h3⟩),hlt,rfl⟩) (weh _) (λid=>by
  unfold PHeap.less;split
  ·exact Nat.le_succ _
  ·exact weh _) (λid ver hv h1 h2=>by
  obtain⟨h3,h4⟩:=Q8 h1;refine⟨h4,?_,rfl⟩;unfold PHeap.less at h2;rw[h3]at h2;simpa using h2)
theorem HRel.only{D:Nat->Bool}{V:Nat->Value}{w:World}(hr:HRel P W H V w):HRel P (W.kept H V D) (H.only D) V w:=by
 refine⟨hr.below,λi t k m cs h=>?_,λi t cs h=>?_,λi p cs φ h=>?_,λi=>(hr.ghost i).only,λi j g h1 h2=>hr.apart i j g (Zl h1).2 (Zl h2).2,λb hz=>?_,λi b h1 h2 hz=>?_⟩
 ·obtain⟨vals,ho,hR,h1⟩:=hr.row i t k m cs (zhf h).2;exact⟨vals,ho,hR.mono λp u hp=>hp.only,h1⟩
 ·obtain⟨g,arr,e,hg,hh,hR,h1⟩:=hr.box i t cs (zhf h).2;exact⟨g,arr,e,hg,hh,hR.mono λp u hp=>hp.only,h1⟩
 ·obtain⟨g,o,vs,e,hg,hh,h1,hR⟩:=hr.map i p cs φ (zhf h).2;exact⟨g,o,vs,e,hg,hh,h1,hR.mono λp u hp=>hp.only⟩
 ·rcases hz with hz|⟨id,_,h2,h3⟩
  ·exact hr.zlt b hz
  ·exact(hr.own_lt h2 h3).2
 ·rcases hz with hz|⟨id,h3,h4,h5⟩
  ·exact hr.nz i b (Zl h1).2 h2 hz
  ·have:=hr.apart i id b (Zl h1).2 h4 h2 h5;subst this;rw[(Zl h1).1]at h3;cases h3
theorem HRel.less{D:Nat->Bool}{V:Nat->Value}{w:World}(hr:HRel P W H V w):HRel P W (H.less D) V w:=by
 refine⟨hr.below,λi t k m cs h=>?_,λi t cs h=>?_,λi p cs φ h=>?_,λi=>(hr.ghost i).less,λi j g h1 h2=>hr.apart i j g (Q8 h1).2 (Q8 h2).2,hr.zlt,λi b h1 h2=>hr.nz i b (Q8 h1).2 h2⟩
 ·obtain⟨vals,ho,hR,h1⟩:=hr.row i t k m cs (zdo h).2;exact⟨vals,ho,hR.mono λp u hp=>hp.less,h1⟩
 ·obtain⟨g,arr,e,hg,hh,hR,h1⟩:=hr.box i t cs (zdo h).2;exact⟨g,arr,e,hg,hh,hR.mono λp u hp=>hp.less,h1⟩
 ·obtain⟨g,o,vs,e,hg,hh,h1,hR⟩:=hr.map i p cs φ (zdo h).2;exact⟨g,o,vs,e,hg,hh,h1,hR.mono λp u hp=>hp.less⟩
theorem wc4{c:Code}{Q:Exit->PFrame->PHeap->Prop}{p q:PV}(D:Nat->Bool)(s:Nat)(hs:F s=p)(hv:View (H.only D) p q)(hq:NoP q)(h:∀H',(∀j,D j=false->H' j=H j)->PC P W n c (F.put (some s) q) H' Q):PC P W n c F H Q:=λV a w Q' hr hQ=>by
 refine h (H.less D) (λj hj=>by simp[PHeap.less,hj]) V a w Q' ⟨hr.heap.less,hr.size,hr.defers,λi=>?_⟩ hQ;by_cases e:s=i
 ·subst e;have h1:=hr.slot s;rw[hs]at h1;have h2:=hv P (W.kept H V D) V w hr.heap.only _ h1.only;simp only[PFrame.put,if_true];refine h2.noP hq (λb _ hz hz'=>hz (zi.2 ?_)) (weh _);rcases hz' with hz'|⟨id,h3,h4⟩
  ·exact .inl hz'
  ·exact .inr ⟨id,(Q8 h3).1,(Q8 h3).2,h4⟩
 ·have e2:¬(some s=some i):=by simpa using e
  simp only[PFrame.put,if_neg e2];exact(hr.slot i).less
end
end Go.Proofs.YtdllbdlnmjngcaaGreat.L
namespace Go.Proofs.YtdllbdlnmjngcaaGreat
set_option maxRecDepth 100000
set_option maxHeartbeats 8000000
set_option linter.unusedVariables false
set_option linter.unusedSimpArgs false
open Go Go.RowKit L
section
variable{P:Program}{W:Env}{n:Nat}{H:PHeap}{F:PFrame}{ops:Array Oper}{o o2:Oper}{l:List Oper}{K:PFrame → PHeap → Prop}
variable{α:Type}{rep:α → PV}{et e base id:Nat}{q:PV}{ll:List (List α)}{x y px:Operand}{t:Nat}
def innerL(e base:Nat)(rep:α->PV)(H:PHeap)(cs:List PV)(ll:List (List α)):Prop:=cs.length=ll.length/\∀(j:Nat)(c:PV)(l:List α),cs[j]?=some c->ll[j]?=some l->ownL e 1 rep H (base+j) c l
def ownLL(et e base:Nat)(rep:α->PV)(H:PHeap)(id:Nat)(q:PV)(ll:List (List α)):Prop:=∃cs ver,innerL e base rep H cs ll/\q=.ps id ver/\H id=⟨ver,some (.row et 1 ll.length cs)⟩
def ownLLc(et e base:Nat)(rep:α->PV)(H:PHeap)(id:Nat)(q:PV)(ll:List (List α))(z:Nat)(p:PV):Prop:=∃cs ver,innerL e base rep H cs ll/\q=.ps id ver/\H id=⟨ver,some (.row et 1 ll.length cs)⟩/\cs[z]?=some p
theorem innerL.mono{H':PHeap}{cs:List PV}(h:innerL e base rep H cs ll)(he:∀j,base<=j->H' j=H j):innerL e base rep H' cs ll:=⟨h.1,λj c l h1 h2=>(h.2 j c l h1 h2).mono (he _ (Nat.le_add_right _ _))⟩
theorem ownLL.mono{H':PHeap}(h:ownLL et e base rep H id q ll)(h1:H' id=H id)(h2:∀j,base<=j->H' j=H j):ownLL et e base rep H' id q ll:=by
 obtain⟨cs,ver,h3,h4,h5⟩:=h;exact⟨cs,ver,h3.mono h2,h4,h1.trans h5⟩
theorem wde{b d:Nat}{xs:List (List α)}{k:IntKind}{m:Int}(id base:Nat)(hb:id<base)(hg:o.guard=none)(ho:o.op=.makeSlice t x x)(hd:o.dst=some d)(hdn:d<n)(ht:yq P t=some (et,1,b,.slice none 0 0))(hx:evP F x=.u (.int k m))(hz:Go.Proofs.YtdllbdlnmjngcaaGreat.mkS b ([]:List α) m=some xs)
  (h:∀q' H',ownLL et e base rep H' id q' xs->(∀j,j≠id->H' j=H j)->PL P W n ops l (F.put (some d) q') H' K):PL P W n ops (o::l) F H K:=by
 unfold Proofs.YtdllbdlnmjngcaaGreat.mkS at hz;split at hz
 ·rename_i hc;cases hz;have hm:m=((m.toNat:Nat):Int):=by omega
  rw[hm]at hx;refine wa4 id hg ho hd hdn ht rfl hx hx hc.2.2 hc.2.1 λver H' b1 o1=>h _ H' ⟨List.replicate m.toNat (.u (.slice none 0 0)),ver,⟨by simp,λj c l h1 h2=>?_⟩,rfl,by rw[wd6];exact b1⟩ o1;have hlt:=(wd5.1 h1).1;rw[wd6]at hlt;rw[wfw,if_pos hlt]at h1 h2;cases h1;cases h2;exact ownL.nil _ _
 ·cases hz
theorem ownLL.at{z:Int}{v:List α}(h:ownLL et e base rep H id q ll)(hv:idx ll z=some v):∃ver,q=.ps id ver/\za5 q=ver/\0<=z/\z.toNat<ll.length/\∃cs,innerL e base rep H cs ll/\H id=⟨ver,some (.row et 1 ll.length cs)⟩:=by
 obtain⟨cs,ver,h1,rfl,h2⟩:=h;obtain⟨h0,hz⟩:=Vt hv;exact⟨ver,rfl,rfl,h0,(wd5.1 hz).1,cs,h1,h2⟩
variable{d ty:Nat}{pos:String}{af:Array Edge}{g:Option (Nat × Bool)}
theorem ownLL.view(h:ownLL et e base rep H id q ll)(hk:∀x,(rep x).cells=[rep x])(hn:∀x,NoP (rep x)):View H q (.sl 1 (ll.map λl=> .sl 1 (l.map rep))):=by
 obtain⟨cs,ver,hi,rfl,hH⟩:=h;have hfl:(ll.map λl=>PV.sl 1 (l.map rep)).flatMap PV.cells=ll.map λl=>PV.sl 1 (l.map rep):=zaq (λ_=>rfl) ll;refine View.row (t:=et) (n:=ll.length) (cs:=cs) (by rw[zaj,hH,zjc,if_pos rfl]) _ (by simp) (λy hy=>by obtain⟨z,_,rfl⟩:=wef.1 hy;rfl) λi p q h1 h2=>?_;rw[hfl,web]at h2;obtain⟨l,h3,rfl⟩:=wee.1 h2;exact(hi.2 i p l h1 h3).view2 (λx=>by rw[hk];rfl) hn
theorem ll_ok(h:ownLL et e base rep H id q ll):okC H q=true:=by
 obtain⟨cs,ver,hi,rfl,hH⟩:=h;exact OwnS.leaf (OwnS.row (k:=1) hH (by rw[hi.1];simp))
theorem jbv(h:ownLL et e base rep H id q ll):q.cells=[q]:=by
 obtain⟨cs,ver,hi,rfl,hH⟩:=h;rfl
theorem z14{bid v T:Nat}{D:Nat->Bool}(hb:H bid=⟨v,some (.box T [q])⟩)(ho:ownLL et e base rep H id q ll)(hk:∀x,(rep x).cells=[rep x])(hn:∀x,NoP (rep x))(h1:D bid=true)(h2:D id=true)(h3:∀j,base<=j->D j=true):View (H.only D) (.pp bid 0 v) (.rp [.sl 1 (ll.map λl=> .sl 1 (l.map rep))]):=by
 have e1:(H.only D) bid=H bid:=by simp[PHeap.only,h1]
 have ho2:ownLL et e base rep (H.only D) id q ll:=ho.mono (by simp[PHeap.only,h2]) λj hj=>by simp[PHeap.only,h3 j hj]
 have hl:jl (H.only D) bid v=some [q]:=by rw[J6,e1,hb,z39,if_pos rfl]
 refine View.pp (cs:=[q]) (ds:=[.sl 1 (ll.map λl=> .sl 1 (l.map rep))]) hl rfl λi p q' h4 h5=>?_
 match i,h4,h5 with
 |0,h4,h5=>
  simp at h4 h5;subst h4;subst h5;exact ho2.view hk hn
 |i+1,h4,h5=>simp at h5
end
section
variable{P:Program}{W:Env}{n:Nat}{H:PHeap}{F:PFrame}{J:PHeap → Prop}{ops:Array Oper}{o:Oper}{l:List Oper}{K:PFrame → PHeap → Prop}
theorem JF.q{Q:PFrame->Prop}{p:PV}(hg:o.guard=none)(hd:jo n o)(hp:∀{H:PHeap},J H->jr P H F o=some p)(h:zo1 P W n ops J Q l (F.put o.dst p)):zo1 P W n ops J Q (o::l) F:=
 ⟨hd,.inl ⟨by unfold qb;rw[hg],p,λH hH=>jh (hp hH),h⟩⟩
theorem JF.qq{Q:PFrame->Prop}{p:PV}(hg:o.guard=none)(hd:jo n o)(hp:∀{H:PHeap},J H->PQ P W o F H p)(h:zo1 P W n ops J Q l (F.put o.dst p)):zo1 P W n ops J Q (o::l) F:=
 ⟨hd,.inl ⟨by unfold qb;rw[hg],p,λH hH=>hp hH,h⟩⟩
theorem JF.ex{Q:PFrame->Prop}{R:PV->Prop}(hg:o.guard=none)(hd:jo n o)(h:∃p,(∀H,J H->PQ P W o F H p)/\R p)(k:∀p,R p->zo1 P W n ops J Q l (F.put o.dst p)):zo1 P W n ops J Q (o::l) F:=by
 obtain⟨p,h1,h2⟩:=h;exact JF.qq hg hd (λ{H}hH=>h1 H hH) (k p h2)
variable{α:Type}{rep:α → PV}{et e base id:Nat}{q:PV}{ll:List (List α)}{x y px:Operand}{t d ty:Nat}{pos:String}{af:Array Edge}{g:Option (Nat × Bool)}
theorem z4r{H':PHeap}{kd:IntKind}{z:Int}{v:List α}(he:esz P t=some 1)(ho:ownLL et e base rep H id q ll)(hid:H' id=H id)(hx:evP F x=q)(hy:evP F y=.u (.int kd z))(hv:idx ll z=some v):jr P H' F ⟨some d,.indexAddr t x y,ty,pos,af,g⟩=some (.pp id (z.toNat*1) (za5 q)):=by
 obtain⟨ver,hq,hvq,h0,hlt,cs,_,hH⟩:=ho.at hv;rw[zau,hx,hy,hvq,hq,zh2 _ _ h0,zaj,hid,hH,zjc,if_pos rfl];show(if esz P t=some 1/\z.toNat<ll.length then _ else none)=_;rw[if_pos ⟨he,hlt⟩]
theorem ll_ldJ{z:Int}{v:List α}(ht:asz P t=some (false,1))(ho:ownLL et e base rep H id q ll)(hJ:∀H',J H'->H' id=H id)(hx:evP F x=.pp id (z.toNat*1) (za5 q))(hv:idx ll z=some v):∃p,(∀H',J H'->PQ P W ⟨some d,.load t x,ty,pos,af,g⟩ F H' p)/\ownLLc et e base rep H id q ll z.toNat p:=by
 obtain⟨ver,hq,hvq,h0,hlt,cs,hi,hH⟩:=ho.at hv;have hzc:z.toNat<cs.length:=by rw[hi.1];exact hlt
 refine⟨cs[z.toNat],λH' hH'=>jh ?_,cs,ver,hi,hq,hH,wd2 hzc⟩;rw[V9,hx,hvq,zcf,J6,hJ H' hH',hH,zpf,if_pos rfl,ht];show qw false 1 (cs.drop (z.toNat*1))=_;rw[zgc,wgu];simp[hzc]
theorem wdk{b:Nat}{zv:Value}{xs ys zs:List α}(ho:o.op=.call { callee :=.builtin .append,args:=#[x,y],argTypes:=#[t,t] })(hd:o.dst=some d)(hdn:d<n)(ht:yq P t=some (e,1,b,zv))
  (hs:evP F x=q) (hr:ownL e 1 rep H id q xs) (hp:evP F y=.sl 1 (ys.map rep)) (hk:∀x,(rep x).cells=[rep x]) (hleaf:∀x,qh H (rep x)=true) (hz:app b xs ys=some zs) :
  PE P W n o F H λpq H'=>ownL e 1 rep H' id pq zs/\∀j,j≠id->H' j=H j:=by
 obtain⟨h1,h2,rfl⟩:=zrr hz;have hf:∀l:List α,(l.map rep).flatMap PV.cells=l.map rep:=zaq hk;have hsrc:zdj H 1 (evP F y)=some (ys.length,ys.map rep):=by rw[hp];simp[zdj,hf]
 have hlf:∀p∈ys.map rep,qh H p=true:=λp hp=>by obtain⟨z,_,rfl⟩:=wef.1 hp;exact hleaf z
 rcases hr.2 with⟨rfl,h0⟩|⟨ver,rfl,hH⟩
 ·have:xs=[]:=wek h0;subst this;refine wbc (id:=id) (k:=1) ho hd hdn ht hs hsrc hlf (by simpa using h1) (by simpa using h2) ⟨?_,λj hj=>by simp[PHeap.set,hj]⟩;unfold ownL;rw[hf];exact OwnS.row (k:=1) (by simp[PHeap.set]) (by simp)
 ·refine PE.append (id:=id) (ver:=ver) (k:=1) (m:=xs.length) (cs:=(xs.map rep).flatMap PV.cells) ho hd hdn ht hs (by rw[zaj,hH,zjc,if_pos rfl]) hsrc hlf h1 h2 ⟨?_,λj hj=>by simp[PHeap.set,hj]⟩;have hfx:=hf xs;have hfa:=hf (xs++ys);unfold ownL;rw[hfa];refine OwnS.row (ver:=ver+1) (k:=1) (m:=(xs++ys).length) (cs:=(xs++ys).map rep) ?_ (by simp);simp only[PHeap.set,if_true];rw[hfx,weo,wfl]
theorem wdd{H0:PHeap}{z:Int}{v zs:List α}{p pq:PV}(hlt:id<base)(hg:o.guard=none)(ho:o.op=.store et px y)(hd2:o.dst=none)(hte:asz P et=some (false,1))
  (hc:ownLLc et e base rep H0 id q ll z.toNat p) (hm:∀j,j≠base+z.toNat->H j=H0 j) (hr1:ownL e 1 rep H (base+z.toNat) pq zs) (hv:idx ll z=some v) (hy:evP F y=pq) (hp:evP F px=.pp id (z.toNat*1) (za5 q))
  (h:∀H',ownLL et e base rep H' id q (ll.set z.toNat zs)->(∀j,j≠id->j<base->H' j=H0 j)->PL P W n ops l (F.put none (.u undef)) H' K):PL P W n ops (o::l) F H K:=by
 obtain⟨cs,ver,hi,hq,hH,hcz⟩:=hc;obtain⟨h0,hz1⟩:=Vt hv;obtain⟨hzl,_⟩:=wd5.1 hz1;have hH':H id=⟨ver,some (.row et 1 ll.length cs)⟩:=by rw[hm id (by omega)];exact hH
 have hcl:cs.length=ll.length:=hi.1;rw[hq]at hp;refine wa5 (cs':=cs.set z.toNat pq) hg ho (λt ht=>by rw[hd2]at ht;cases ht) hp hH' hte hy (own_ok hr1) (z72 hr1) rfl (by omega) ?_ λH'' b1 o1=>?_
 ·rw[wgu];unfold setMany;apply wfj;intro i;have:=za cs [pq] z.toNat (by simp;omega) i;unfold setMany at this;simp only[wez]at this⊢;rw[this,wev];by_cases e:z.toNat=i
  ·subst e;have:z.toNat<cs.length:=by omega
   simp[this]
  ·have h3:¬(z.toNat<=i/\i<z.toNat+1):=by omega
   rw[if_neg h3,if_neg e]
 ·rw[hd2];refine h H'' ⟨cs.set z.toNat pq,ver,⟨by simp[hcl],λj c l h1 h2=>?_⟩,hq,by rw[wfz];exact b1⟩ λj h1 h2=>?_
  ·rw[wev]at h1 h2;by_cases e:z.toNat=j
   ·subst e;have hlt2:z.toNat<cs.length:=by omega
    simp only[if_true,hlt2,hzl]at h1 h2;cases h1;cases h2;exact hr1.mono (o1 _ (by omega))
   ·rw[if_neg e]at h1 h2;exact(hi.2 j c l h1 h2).mono (by rw[o1 _ (by omega),hm _ (by omega)])
  ·rw[o1 j h1,hm j (by omega)]
theorem ownLLc.inner{z:Int}{v:List α}{p:PV}(hc:ownLLc et e base rep H id q ll z.toNat p)(hv:idx ll z=some v):ownL e 1 rep H (base+z.toNat) p v:=by
 obtain⟨cs,ver,hi,hq,hH,hcz⟩:=hc;exact hi.2 _ _ _ hcz (Vt hv).2
end
open Go.ChangeShapes Go.WideShapes Go.ChangeAt Go.RowKit
theorem zh5{H:Type}{enc:TypeId×Value->H}{P:Program}(hl:laidOutB P=true){W W':World}(hb:Below W.heap.size W W'):
  ∀(ts:List TypeId)(vs:List Value)(ds:List (DataW H))(ps:List MemPlace),(∀t∈ts,P.readableRec t=true/\t<P.types.size)->(∀x∈ps,x.block<W.heap.size) ->
   DataW.TrodAll enc P W 0 (λ_=>true) true ts vs ds ps->DataW.TrodAll enc P W' 0 (λb=>decide (b<W.heap.size)) true ts vs ds ps
 |[],vs,ds,ps,_,_,h=>by
  obtain⟨rfl,rfl,rfl⟩:=trodAll_nil h;exact trodAll_mk0
 |t::ts,vs,ds,ps,hr,hlt,h=>by
  obtain⟨v,vs',d,ds',p,q,rfl,rfl,rfl,h0,h1⟩:=trodAll_cons h;have ht:=hr t (by simp);exact trodAll_cons_mk (Below.trod hl ht.1 ht.2 h0 hb λx hx=>hlt x (by simp[hx]))
   (zh5 hl hb ts vs' ds' q (λt ht=>hr t (by simp[ht])) (λx hx=>hlt x (by simp[hx])) h1)
theorem law_post{H:Type}{enc:TypeId×Value->H}{P:Program}{f:Func}{s:ChangeSpec}{tB:TypeId}(hl:laidOutB P=true)(hr:(f.params.toList.all λt=>P.readableRec t && decide (t<P.types.size))=true)
  (hvars:s.vars=[]) (hbool:f.resultTypes = #[tB]) (hB:P.underlying tB=some .bool) {W W':World}{args:Array Value}{ds gs:List (DataW H)}{before:List MemPlace}
  (hW:DataW.Whole enc P f.params.toList s.vars false W args.toList ds gs before) (hfn:s.fn H ds = { results:=[.lit (.bool true)],args:=ds }) (hb:Below W.heap.size W W') :
  s.post enc P f false true false false W args (.bool true) W':=by
 have hW':=hW;obtain⟨p,q,hA,hV,hbef,_,_⟩:=hW;rw[hvars]at hV;obtain⟨rfl,rfl⟩:=trodVars_none hV;rw[weq]at hbef;subst hbef;have hlt:∀x∈before,x.block<W.heap.size:=λx hx=>by simpa using hW'.lt x hx
 have hr':∀t∈f.params.toList,P.readableRec t=true/\t<P.types.size:=by
  intro t ht;have:=we0.1 hr t ht;simpa using this
 refine⟨ds,[],before,[],before,[],hW',?_,?_,?_,hb.frame _,λh=>by cases h⟩
 ·rw[weq,hfn,hbool];exact trodAll_mk1 (shut_bool hB true)
 ·rw[weq,hfn];exact zh5 hl hb _ _ _ _ hr' hlt hA
 ·rw[weq,hfn,hvars];rfl
open Go Go.RowKit Go.ChangeShapes Go.WideShapes L
abbrev F0:ZM:=⟨λ_=>False,0⟩
def OkI(k:IntKind)(z:Int):Prop:=(Lit.int k z).wf=true
section
variable{w:World}{Z:ZM}{H:PHeap}{V:Nat → Value}
theorem rl_nil:RpL Z H V w [] []:=⟨rfl,λi p v h=>by simp at h⟩
theorem rl_cons{p:PV}{v:Value}{ps:List PV}{vs:List Value}(h:Rp Z H V w p v)(hs:RpL Z H V w ps vs):RpL Z H V w (p::ps) (v::vs):=⟨by simp[hs.1],λi a b h1 h2=>by
 cases i with
 |zero=>simp at h1 h2;subst h1;subst h2;exact h
 |succ i=>exact hs.2 i a b (by simpa using h1) (by simpa using h2)⟩
theorem rl_app{ps qs:List PV}{vs us:List Value}(h:RpL Z H V w ps vs)(hs:RpL Z H V w qs us):RpL Z H V w (ps++qs) (vs++us):=by
 refine⟨by simp[h.1,hs.1],λi a b h1 h2=>?_⟩;by_cases hi:i<ps.length
 ·rw[weg hi]at h1;rw[weg (h.1▸hi)]at h2;exact h.2 i a b h1 h2
 ·rw[wei (by omega)]at h1;rw[wei (by rw[<- h.1];omega),<- h.1]at h2;exact hs.2 _ a b h1 h2
theorem rl_cut{ps qs:List PV}{cs:List Value}(n:Nat)(h:RpL Z H V w ps (cs.take n))(hs:RpL Z H V w qs (cs.drop n)):RpL Z H V w (ps++qs) cs:=by
 have:=rl_app h hs;rwa [wfh]at this
theorem rl_end{cs:List Value}(h:cs.length=0):RpL Z H V w [] cs:=by
 cases cs with
 |nil=>exact rl_nil
 |cons c cs=>simp at h
theorem rl_dd{ps:List PV}{cs:List Value}{m n k:Nat}(e:m+n=k)(h:RpL Z H V w ps (cs.drop k)):RpL Z H V w ps ((cs.drop m).drop n):=by rw[List.drop_drop,e];exact h
theorem rl_one{p:PV}{v:Value}(h:RpL Z H V w [p] [v]):Rp Z H V w p v:=h.2 0 p v rfl rfl
theorem rl_agg{ps:List PV}{cs:Array Value}(h:RpL Z H V w ps (Value.agg cs).cells.toList):Rp Z H V w (.agg ps) (.agg cs):=
 .agg _ _ (by simpa [Value.cells]using h.1) λi p u h1 h2=>h.2 i p u h1 (by simpa [Value.cells]using h2)
end
section
variable{H:Type}{enc:TypeId × Value → H}{P:Program}{w:World}{base:Nat}{spare:Nat → Bool}{held:Bool}
def znf(enc:TypeId×Value->H)(P:Program)(w:World)(base:Nat)(spare:Nat->Bool)(held:Bool)(t:TypeId){α:Type}(rep:α->PV)(C:α->Prop):Prop:=
 ∀(fuel:Nat)(cs:List Value)(x:DataW H×List MemPlace),DataW.trod enc P w base spare held fuel t cs=some x->∃a,RpL F0 PHeap.empty V0 w (rep a).cells cs/\C a
theorem z7j{t:TypeId}{k:IntKind}(ht:P.underlying t=some (.int k)):znf enc P w base spare held t (λz=> .u (.int k z)) (OkI k):=λfuel cs x h=>by
 obtain⟨n,rfl,_,hw⟩:=DataW.trod_int ht h;exact⟨n,rl_cons (.u _) rl_nil,hw⟩
theorem z33{t:TypeId}(ht:P.underlying t=some .bool):znf enc P w base spare held t B (λ_=>True):=λfuel cs x h=>by
 obtain⟨n,rfl,_⟩:=DataW.trod_bool ht h;exact⟨n,rl_cons (.u _) rl_nil,trivial⟩
theorem z7l{t:TypeId}(ht:P.underlying t=some .string):znf enc P w base spare held t S (λs=>s.size<=maxLen):=λfuel cs x h=>by
 obtain⟨n,rfl,_,hs⟩:=DataW.trod_string ht h;exact⟨n,rl_cons (.u _) rl_nil,hs⟩
theorem z9e{α:Type}[Inhabited α]{t e:TypeId}{k:Nat}{rep:α->PV}{C:α->Prop}(ht:P.underlying t=some (.slice e))(hk:P.cellsOf e=k)(hpos:0<k)(hcell:∀a,(rep a).cells.length=k)
  (he:znf enc P w base spare held e rep C):znf enc P w base spare held t (λ(l:List α)=> .sl k (l.map rep)) (λl=>l.length<=maxLen/\∀a∈l,C a):=λfuel cs x h=>by
 have helem:=he
 suffices hs:∃(l:List α)(v:Value),cs=[v]/\Rp F0 PHeap.empty V0 w (.sl k (l.map rep)) v/\l.length<=maxLen/\∀a∈l,C a by
  obtain⟨l,v,rfl,h1,h2⟩:=hs;exact⟨l,rl_cons h1 rl_nil,h2⟩
 rcases Go.Deep.open_slice ht h with⟨hcs,_⟩|⟨a,len,cap,m,n,D,Pl,hcs,hb,hl,hm,hmm,_,hx⟩
 ·exact⟨[],_,hcs,.nil _ _ _,wgm _,λa ha=>by cases ha⟩
 ·have hlm:len<=m:=by rw[hmm];split<;>omega
  by_cases h0:len=0
  ·subst h0;exact⟨[],_,hcs,.nil _ _ _,wgm _,λa ha=>by cases ha⟩
  have each:∀i,i<m->∃q:α,(∀r,r<k->∃u p,w.cell? (a.add (i*k+r))=some u/\(rep q).cells[r]?=some p/\Rp F0 PHeap.empty V0 w p u)/\C q:=λi hi=>by
   obtain⟨cs',h1,h2⟩:=hx i hi;rw[hk]at h1;obtain⟨_,hlen,hcl⟩:=World.cells?_some h1;obtain⟨q,hq,hC⟩:=helem n cs' _ h2;refine⟨q,λr hr=>?_,hC⟩;have e0:=hcl r hr;rw[Go.Deep.add_add]at e0;have h3:r<cs'.length:=by omega
   have h4:r<(rep q).cells.length:=by rw[hcell];exact hr
   rw[wd2 h3]at e0;exact⟨_,_,e0,wd2 h4,hq.2 r _ _ (wd2 h4) (wd2 h3)⟩
  obtain⟨q,hq⟩:=Go.Deep.choose_lt each;obtain⟨b,o,spot⟩:=a;obtain⟨u0,_,hu0,_,_⟩:=(hq 0 (by omega)).1 0 hpos;have hspot:spot=none:=by simpa [Addr.add]using World.cell?_spot hu0
  subst hspot;have hbl:b<w.heap.size:=by
   unfold World.cell? at hu0;by_cases hlt:b<w.heap.size
   ·exact hlt
   ·simp[Addr.add,Array.getElem?_eq_none (by omega:w.heap.size<=b)]at hu0
  refine⟨(List.range len).map q,_,hcs,?_,by simp;omega,λz hz=>by obtain⟨i,hi,rfl⟩:=wef.1 hz;exact(hq i (by have:=wf7.1 hi;omega)).2⟩;have hu:∀y∈((List.range len).map q).map rep,y.cells.length=k:=λy hy=>by obtain⟨z,_,rfl⟩:=wef.1 hy;exact hcell z
  have hlx:(((List.range len).map q).map rep).length=len:=by simp
  have hadd:∀k,w.cell? ((⟨b,o,none⟩:Addr).add k)=w.cell? ⟨b,o+k,none⟩:=λk=>by rw[zq]
  have key:∀(i:Nat)(p:PV),((((List.range len).map q).map rep).flatMap PV.cells)[i]?=some p->∃v,w.cell? ⟨b,o+i,none⟩=some v/\Rp F0 PHeap.empty V0 w p v:=λi p hp=>by
   have hi:i<len*k:=by
    have:=(wd5.1 hp).1;rw[L.flat_length _ hu,hlx]at this;exact this
   have hj:i / k<len:=by rw[Nat.div_lt_iff_lt_mul hpos];exact hi
   have hr:i % k<k:=Nat.mod_lt _ hpos;have hy:(((List.range len).map q).map rep)[i / k]?=some (rep (q (i / k))):=by simp[hj]
   have e:=zhd hu (i / k) (i % k) _ hy hr;have hdm:i / k*k+i % k=i:=by rw[Nat.mul_comm];exact Nat.div_add_mod i k
   rw[hdm,hp]at e;obtain⟨u,p',h1,h2,h3⟩:=(hq (i / k) (by omega)).1 (i % k) hr;rw[<- e]at h2;cases h2;rw[hadd,hdm]at h1;exact⟨u,h1,h3⟩
  have hsl:=Rp.sl (Z:=F0) (H:=PHeap.empty) (V:=V0) (w:=w) k (((List.range len).map q).map rep) b o cap (λi=>(w.cell? ⟨b,o+i,none⟩).getD undef) hu (by simpa using hl) (λh=>(zi.1 h).elim) hbl
   (λi p hp=>by obtain⟨v,hv,_⟩:=key i p hp;rw[hv];rfl) (λi p hp=>by obtain⟨v,hv,hr⟩:=key i p hp;simp only[hv,wfd];exact hr)
  rwa [hlx]at hsl
theorem z6r{α:Type}[Inhabited α]{t e:TypeId}{n:Nat}{rep:α->PV}{C:α->Prop}(ht:P.underlying t=some (.array n e))(hk:P.cellsOf e=1)(hn:P.cellsOf t=n)(hcell:∀a,(rep a).cells=[rep a])
  (he:znf enc P w base spare held e rep C):znf enc P w base spare held t (arV (n:=n) rep) (λa=>∀x∈a.1,C x):=λfuel cs x h=>by
 obtain⟨zs,m,_,_,hcl,hzl,hz⟩:=DataW.trod_array ht h;rw[hn]at hcl;have each:∀i,i<n->∃q:α,(∃u,cs[i]?=some u/\Rp F0 PHeap.empty V0 w (rep q) u)/\C q:=λi hi=>by
  have h1:=hz i hi;rw[hk,wgu,wd2 (by omega)]at h1;obtain⟨q,hq,hC⟩:=he m _ _ h1;have hd:(cs.drop i).take 1=[cs[i]'(by omega)]:=by rw[we7 (by omega)];rfl
  rw[hd,hcell]at hq;exact⟨q,⟨_,wd2 (by omega),rl_one hq⟩,hC⟩
 obtain⟨q,hq⟩:=Go.Deep.choose_lt each;refine⟨⟨(List.range n).map q,by simp⟩,?_,λx hx=>?_⟩
 ·refine⟨by simp[arV,PV.cells,hcl],λi p v h1 h2=>?_⟩;have hi:i<n:=by have:=(wd5.1 h2).1;omega
  simp[arV,PV.cells,hi]at h1;obtain⟨u,h3,h4⟩:=(hq i hi).1;rw[h3]at h2;cases h2;subst h1;exact h4
 ·obtain⟨i,hi,rfl⟩:=wef.1 hx;exact(hq i (wf7.1 hi)).2
end
theorem z59{f:FuncId}{qs:List PV}(h:PCall Tryz.prog f qs (· = B true)){w:World}{vs:List Value}(hr:RpL F0 PHeap.empty V0 w qs vs):Calls Tryz.prog f vs.toArray w λe w'=>e=.returned (.bool true)/\Below w.heap.size w w':=
 (h F0 w vs (λb hb=>False.elim hb) (wgm _) hr).mono λe w'⟨v,p,he,hp,_,hR,hb⟩=>by
  subst hp;rw[rpu hR]at he;exact⟨he,hb⟩
end Go.Proofs.YtdllbdlnmjngcaaGreat
namespace Go.Proofs.YtdllbdlnmjngcaaGreat.T
set_option maxRecDepth 100000
set_option maxHeartbeats 8000000
set_option linter.unusedVariables false
set_option linter.unusedSimpArgs false
open Go Go.RowKit L
inductive Ty where
 |int (k:IntKind)
 |bool
 |str
 |sl (t:Ty)
 |ref (t:Ty)
 |arr (n:Nat) (t:Ty)
 |nil
 |cons (a r:Ty)
 |st (r:Ty)
 |tup (r:Ty)
structure Arr(n:Nat)(α:Type)where
 l:List α
 h:l.length=n
@[reducible] def Ty.D:Ty->Type
 |.int _=>Int
 |.bool=>Bool
 |.str=>List UInt8
 |.sl t=>List t.D
 |.ref t=>Option t.D
 |.arr n t=>Arr n t.D
 |.nil=>Unit
 |.cons a r=>a.D×r.D
 |.st r=>r.D
 |.tup r=>r.D
def ikB:IntKind->IntKind->Bool
 |.i8,.i8|.i16,.i16|.i32,.i32|.i64,.i64|.u8,.u8|.u16,.u16|.u32,.u32|.u64,.u64=>true
 |_,_=>false
theorem zxh{a b:IntKind}(h:ikB a b=true):a=b:=by cases a<;>cases b<;>first|rfl|cases h
def Ty.eqB:Ty->Ty->Bool
 |.int k,.int k'=>ikB k k'
 |.bool,.bool=>true
 |.str,.str=>true
 |.sl a,.sl b=>a.eqB b
 |.ref a,.ref b=>a.eqB b
 |.arr n a,.arr m b=>Nat.beq n m && a.eqB b
 |.nil,.nil=>true
 |.cons a r,.cons b s=>a.eqB b && r.eqB s
 |.st r,.st s=>r.eqB s
 |.tup r,.tup s=>r.eqB s
 |_,_=>false
theorem Ty.eqB_eq:∀{a b:Ty},a.eqB b=true->a=b
 |.int k,b,h=>by cases b<;>simp only[eqB]at h<;>first|(rw[zxh h])|cases h
 |.bool,b,h=>by cases b<;>simp only[eqB]at h<;>first|rfl|cases h
 |.str,b,h=>by cases b<;>simp only[eqB]at h<;>first|rfl|cases h
 |.sl a,b,h=>by cases b<;>simp only[eqB]at h<;>first|(rw[eqB_eq h])|cases h
 |.ref a,b,h=>by cases b<;>simp only[eqB]at h<;>first|(rw[eqB_eq h])|cases h
 |.arr n a,b,h=>by
  cases b<;>simp only[eqB]at h<;>first|(rw[wd8]at h;rw[eqB_eq h.2,wd9 h.1])|cases h
 |.nil,b,h=>by cases b<;>simp only[eqB]at h<;>first|rfl|cases h
 |.cons a r,b,h=>by
  cases b<;>simp only[eqB]at h<;>first|(rw[wd8]at h;rw[eqB_eq h.1,eqB_eq h.2])|cases h
 |.st r,b,h=>by cases b<;>simp only[eqB]at h<;>first|(rw[eqB_eq h])|cases h
 |.tup r,b,h=>by cases b<;>simp only[eqB]at h<;>first|(rw[eqB_eq h])|cases h
def castD{a b:Ty}(h:a=b)(x:a.D):b.D:=h▸x
def z4t(a b:Ty)(x:a.D):Option b.D:=match h:a.eqB b with
 |true=>some (castD (Ty.eqB_eq h) x)
 |false=>none
def wid:Ty->Nat
 |.arr n t=>n*wid t
 |.nil=>0
 |.cons a r=>wid a+wid r
 |.st r=>wid r
 |_=>1
def Qr:Ty->Bool
 |.arr _ _=>true
 |.nil=>true
 |.cons _ _=>true
 |.st _=>true
 |_=>false
def mkV(t:Ty)(cs:List PV):PV:=match Qr t with
 |true => .agg cs
 |false=>cs.headD .unk
def vz:Ty->List PV->List PV
 |.cons a r,cs=>mkV a (cs.take (wid a))::vz r (cs.drop (wid a))
 |_,_=>[]
def encC:(t:Ty)->t.D->List PV
 |.int k,z=>[.u (.int k z)]
 |.bool,b=>[.u (.bool b)]
 |.str,s=>[.u (.string ⟨⟨s⟩⟩)]
 |.sl t,l=>[.sl (wid t) (l.map λx=>mkV t (encC t x))]
 |.ref t,o=>[match o with
  |none => .u (.pointer none)
  |some x => .rp (encC t x)]
 |.arr _ t,v=>v.l.flatMap (encC t)
 |.nil,_=>[]
 |.cons a r,x=>encC a x.1++encC r x.2
 |.st r,x=>encC r x
 |.tup r,x=>[.tup (vz r (encC r x))]
def enc(t:Ty)(x:t.D):PV:=mkV t (encC t x)
theorem Jy{α:Type}(f:α->List PV)(k:Nat):∀(l:List α),(∀x∈l,(f x).length=k)->(l.flatMap f).length=l.length*k
 |[],_=>by simp
 |a::l,h=>by
  rw[wex,weo,h a (by simp),Jy f k l (λx hx=>h x (by simp[hx]))];simp[Nat.succ_mul,wf9]
theorem ju:∀(t:Ty)(x:t.D),(encC t x).length=wid t
 |.int _,_=>rfl
 |.bool,_=>rfl
 |.str,_=>rfl
 |.sl _,_=>rfl
 |.ref _,_=>rfl
 |.arr n t,v=>by simp only[encC,wid];rw[Jy _ (wid t) v.l λx _=>ju t x,v.h]
 |.nil,_=>rfl
 |.cons a r,x=>by simp only[encC,wid,weo,ju a,ju r]
 |.st r,x=>by simp only[encC,wid];exact ju r x
 |.tup _,_=>rfl
theorem z56(t:Ty)(x:t.D):(mkV t (encC t x)).cells=encC t x:=by
 cases t<;>first|rfl|(simp only[encC,mkV,Qr];split<;>rfl)
theorem enc_cells(t:Ty)(x:t.D):(enc t x).cells=encC t x:=z56 t x
theorem Yu(t:Ty)(l:List t.D):(l.map (enc t)).flatMap PV.cells=l.flatMap (encC t):=by
 rw[List.flatMap_map];exact congrArg (λf=>l.flatMap f) (funext λx=>enc_cells t x)
theorem zi5(t:Ty)(l:List t.D):enc (.sl t) l=.sl (wid t) (l.map (enc t)):=rfl
theorem zwc{t:Ty}{cs:List PV}(h:∀c∈cs,NoP c)(hl:Qr t=false->cs≠[]):NoP (mkV t cs):=by
 unfold mkV;cases hi:Qr t
 ·cases cs with
  |nil=>exact absurd rfl (hl hi)
  |cons c cs=>exact h c (by simp)
 ·exact .agg _ h
theorem zcm{t:Ty}(h:Qr t=false):wid t=1:=by cases t<;>first|rfl|cases h
theorem zix{P:PV->Prop}:∀(r:Ty)(cs:List PV),cs.length=wid r->(∀c∈cs,P c)->(∀{t:Ty}{ds:List PV},(∀c∈ds,P c)->(Qr t=false->ds≠[])->P (mkV t ds))->∀p∈vz r cs,P p
 |.cons a r,cs,hl,h,hm,p,hp=>by
  simp only[vz,wep]at hp;rcases hp with rfl|hp
  ·refine hm (λc hc=>h c (wgi hc)) λha e=>?_;have:(cs.take (wid a)).length=0:=by rw[e];rfl
   simp only[wid]at hl;rw[wfg,zcm ha]at this;have:=zcm ha;omega
  ·refine zix r _ ?_ (λc hc=>h c (wgh hc)) hm p hp;simp only[wid]at hl;rw[wfc];omega
 |.int _,_,_,_,_,p,hp=>by simp[vz]at hp
 |.bool,_,_,_,_,p,hp=>by simp[vz]at hp
 |.str,_,_,_,_,p,hp=>by simp[vz]at hp
 |.sl _,_,_,_,_,p,hp=>by simp[vz]at hp
 |.ref _,_,_,_,_,p,hp=>by simp[vz]at hp
 |.arr _ _,_,_,_,_,p,hp=>by simp[vz]at hp
 |.nil,_,_,_,_,p,hp=>by simp[vz]at hp
 |.st _,_,_,_,_,p,hp=>by simp[vz]at hp
 |.tup _,_,_,_,_,p,hp=>by simp[vz]at hp
theorem zpd{t:Ty}(x:t.D)(h:Qr t=false):encC t x≠[]:=λe=>by
 have:=ju t x;rw[e,zcm h]at this;cases this
theorem yi:∀(t:Ty)(x:t.D),∀c∈encC t x,NoP c
 |.int _,_,c,h=>by simp only[encC,wea]at h;subst h;exact .u _
 |.bool,_,c,h=>by simp only[encC,wea]at h;subst h;exact .u _
 |.str,_,c,h=>by simp only[encC,wea]at h;subst h;exact .u _
 |.sl t,l,c,h=>by
  simp only[encC,wea]at h;subst h;refine .sl _ _ λc hc=>?_;obtain⟨x,_,rfl⟩:=wef.1 hc;exact zwc (yi t x) (zpd x)
 |.ref t,o,c,h=>by
  simp only[encC,wea]at h;subst h;cases o with
  |none=>exact .u _
  |some x=>exact .rp _ (yi t x)
 |.arr n t,v,c,h=>by
  simp only[encC]at h;obtain⟨x,_,hx⟩:=wfe.1 h;exact yi t x c hx
 |.nil,_,c,h=>by simp[encC]at h
 |.cons a r,x,c,h=>by
  simp only[encC,wej]at h;rcases h with h|h
  ·exact yi a _ c h
  ·exact yi r _ c h
 |.st r,x,c,h=>by simp only[encC]at h;exact yi r _ c h
 |.tup r,x,c,h=>by
  simp only[encC,wea]at h;subst h;exact .tup _ (zix r _ (ju r x) (yi r x) λh1 h2=>zwc h1 h2)
theorem Q7(t:Ty)(x:t.D):NoP (enc t x):=zwc (yi t x) (zpd x)
def zct:Ty->Bool
 |.arr _ t=>zct t
 |.cons a r=>zct a && zct r
 |.st r=>zct r
 |.tup _=>false
 |_=>true
theorem zbp:∀(t:Ty)(x:t.D)(H:PHeap),zct t=true->∀c∈encC t x,qh H c=true
 |.int _,_,H,_,c,h=>by simp only[encC,wea]at h;subst h;rfl
 |.bool,_,H,_,c,h=>by simp only[encC,wea]at h;subst h;rfl
 |.str,_,H,_,c,h=>by simp only[encC,wea]at h;subst h;rfl
 |.sl t,l,H,_,c,h=>by simp only[encC,wea]at h;subst h;rfl
 |.ref t,o,H,_,c,h=>by
  simp only[encC,wea]at h;subst h;cases o<;>rfl
 |.arr n t,v,H,ht,c,h=>by
  simp only[encC]at h;obtain⟨x,_,hx⟩:=wfe.1 h;exact zbp t x H (by simpa [zct]using ht) c hx
 |.nil,_,H,_,c,h=>by simp[encC]at h
 |.cons a r,x,H,ht,c,h=>by
  simp only[zct,wd8]at ht;simp only[encC,wej]at h;rcases h with h|h
  ·exact zbp a _ H ht.1 c h
  ·exact zbp r _ H ht.2 c h
 |.st r,x,H,ht,c,h=>by simp only[encC]at h;exact zbp r _ H (by simpa [zct]using ht) c h
 |.tup r,x,H,ht,c,h=>by simp[zct]at ht
structure Dyn where
 t:Ty
 x:t.D
def Dyn.pv(d:Dyn):PV:=enc d.t d.x
def Dyn.as(d:Dyn)(t:Ty):Option t.D:=z4t d.t t d.x
theorem wai{d:Dyn}{t:Ty}{x:t.D}(h:d.as t=some x):d=⟨t,x⟩:=by
 obtain⟨t',y⟩:=d;unfold Dyn.as z4t at h;simp only at h;split at h
 ·rename_i he;have:=Ty.eqB_eq he;subst this;cases h;rfl
 ·cases h
inductive TS where
 | v (d : Dyn)                               -- told data
 | c (v : Value)                             -- a constant
 | own (id ver : Nat)                        -- the slice, or map, that an own block is
 | q (id k off ver : Nat)                    -- that slice from an element on
 | pt (id off ver : Nat)                     -- a pointer into an own block
 | elt (id k : Nat) (i : Int) (off ver : Nat) -- a pointer into an element of an own block
 | rd (d : Dyn)                              -- a pointer to told data
 |dead
 |fn (f:Fn) (a b:List TS)
 | agg (xs : List TS)                        -- a struct: parts, one behind the other
 |tup (xs:List TS)
 deriving Inhabited
mutual
def TS.den:TS->PV
 |.v d=>enc d.t d.x
 |.c v=>ofV v
 |.own id ver => .ps (2*id) ver
 |.q id k off ver => .qs (2*id) off k ver
 |.pt id off ver => .pp (2*id) off ver
 |.elt id k i off ver => .pp (2*id) (i.toNat*k+off) ver
 |.rd d => .rp (encC d.t d.x)
 |.dead => .unk
 |.fn f a b => .fn f (yk a) (yk b)
 |.agg xs => .agg (js xs)
 |.tup xs => .tup (yk xs)
def yk:List TS->List PV
 |[]=>[]
 |x::xs=>x.den::yk xs
def js:List TS->List PV
 |[]=>[]
 |x::xs=>x.den.cells++js xs
end
theorem zb5(xs:List TS):yk xs=xs.map TS.den:=by
 induction xs with
 |nil=>simp only[yk,wfk]
 |cons x xs ih=>simp only[yk,wen,ih]
theorem zmb(xs:List TS):js xs=xs.flatMap λx=>x.den.cells:=by
 induction xs with
 |nil=>simp only[js,whc]
 |cons x xs ih=>simp only[js,wex,ih]
theorem znk(xs ys:List TS):js (xs++ys)=js xs++js ys:=by simp only[zmb,wf6]
theorem z0g(a b:List TS):yk (a++b)=yk a++yk b:=by simp only[zb5,wfl]
def z8k:Value->Nat
 |.agg vs=>vs.size
 |_=>1
mutual
def Yb:TS->Nat
 |.v d=>wid d.t
 |.c v=>z8k v
 |.agg xs=>jci xs
 |_=>1
def jci:List TS->Nat
 |[]=>0
 |x::xs=>Yb x+jci xs
end
mutual
theorem zg5:∀s:TS,s.den.cells.length=Yb s
 |.v d=>by simp only[TS.den,Yb,enc_cells,ju]
 |.c v=>by simp only[TS.den,Yb];cases v<;>simp[ofV,PV.cells,z8k]
 |.own _ _=>by simp only[TS.den,Yb,PV.cells,wez]
 |.q _ _ _ _=>by simp only[TS.den,Yb,PV.cells,wez]
 |.pt _ _ _=>by simp only[TS.den,Yb,PV.cells,wez]
 |.elt _ _ _ _ _=>by simp only[TS.den,Yb,PV.cells,wez]
 |.rd _=>by simp only[TS.den,Yb,PV.cells,wez]
 |.dead=>by simp only[TS.den,Yb,PV.cells,wez]
 |.fn _ _ _=>by simp only[TS.den,Yb,PV.cells,wez]
 |.agg xs=>by simp only[TS.den,Yb,PV.cells];exact zy4 xs
 |.tup _=>by simp only[TS.den,Yb,PV.cells,wez]
theorem zy4:∀xs:List TS,(js xs).length=jci xs
 |[]=>by simp only[js,jci,wgp]
 |x::xs=>by simp only[js,jci,weo,zg5 x,zy4 xs]
end
def Ref(p q:PV):Prop:=∀(Z:ZM)(H:PHeap)(V:Nat->Value)(w:World)(v:Value),Rp Z H V w p v->Rp Z H V w q v
theorem Ref.refl(p:PV):Ref p p:=λ_ _ _ _ _ h=>h
theorem Ref.unk(p:PV):Ref p .unk:=λ_ _ _ _ v _=> .unk v
def RefL(ps qs:List PV):Prop:=ps.length=qs.length/\∀(i:Nat)(p q:PV),ps[i]?=some p->qs[i]?=some q->Ref p q
theorem RefL.refl(ps:List PV):RefL ps ps:=⟨rfl,λi p q h1 h2=>by rw[h1]at h2;cases h2;exact Ref.refl p⟩
theorem RefL.nil:RefL [] []:=RefL.refl []
theorem RefL.cons{p q:PV}{ps qs:List PV}(h:Ref p q)(hs:RefL ps qs):RefL (p::ps) (q::qs):=⟨by simp[hs.1],λi a b h1 h2=>by
 cases i with
 |zero=>simp at h1 h2;subst h1 h2;exact h
 |succ i=>exact hs.2 i a b (by simpa using h1) (by simpa using h2)⟩
theorem RefL.append{a b c d:List PV}(h1:RefL a b)(h2:RefL c d):RefL (a++c) (b++d):=⟨by simp[h1.1,h2.1],λi p q h3 h4=>by
 by_cases hi:i<a.length
 ·rw[weg hi]at h3;rw[weg (by rw[<- h1.1];exact hi)]at h4;exact h1.2 i p q h3 h4
 ·rw[wei (by omega)]at h3;rw[wei (by rw[<- h1.1];omega),<- h1.1]at h4;exact h2.2 _ p q h3 h4⟩
theorem RefL.take{a b:List PV}(h:RefL a b)(k:Nat):RefL (a.take k) (b.take k):=⟨by simp[h.1],λi p q h1 h2=>by
 rw[wfm]at h1 h2;split at h1
 ·rename_i hi;rw[if_pos hi]at h2;exact h.2 i p q h1 h2
 ·cases h1⟩
theorem RefL.drop{a b:List PV}(h:RefL a b)(k:Nat):RefL (a.drop k) (b.drop k):=⟨by simp[h.1],λi p q h1 h2=>by
 rw[we5]at h1 h2;exact h.2 _ p q h1 h2⟩
theorem RefL.rpL{ps qs:List PV}(h:RefL ps qs){Z:ZM}{H:PHeap}{V:Nat->Value}{w:World}{vs:List Value}(hv:RpL Z H V w ps vs):RpL Z H V w qs vs:=⟨by rw[<- h.1];exact hv.1,λi q v h1 h2=>by
 have hi:i<ps.length:=by rw[h.1];exact(wd5.1 h1).1
 exact h.2 i _ q (wd2 hi) h1 _ _ _ _ _ (hv.2 i _ v (wd2 hi) h2)⟩
theorem Ref.agg{ps qs:List PV}(h:RefL ps qs):Ref (.agg ps) (.agg qs):=λZ H V w v hv=>by
 cases hv with
 |agg _ vs hl hh=>
  have:=h.rpL (Z:=Z) (H:=H) (V:=V) (w:=w) (vs:=vs.toList) ⟨by simpa using hl,λi p v h1 h2=>hh i p v h1 (by simpa using h2)⟩;exact .agg _ _ (by simpa using this.1) λi p v h1 h2=>this.2 i p v h1 (by simpa using h2)
theorem Ref.tup{ps qs:List PV}(h:RefL ps qs):Ref (.tup ps) (.tup qs):=λZ H V w v hv=>by
 cases hv with
 |tup _ vs hl hh=>
  have:=h.rpL (Z:=Z) (H:=H) (V:=V) (w:=w) (vs:=vs.toList) ⟨by simpa using hl,λi p v h1 h2=>hh i p v h1 (by simpa using h2)⟩;exact .tup _ _ (by simpa using this.1) λi p v h1 h2=>this.2 i p v h1 (by simpa using h2)
theorem wcu(k:Nat)(a:Option Addr)(c:Nat):Ref (.u (.slice a 0 c)) (.sl k []):=λZ H V w v hv=>by cases hv;exact .nil _ _ _
def zcn:(r:Ty)->r.D->List TS
 |.cons a r,x => .v ⟨a,x.1⟩::zcn r x.2
 |.nil,_=>[]
 |.st r,x=>[.v ⟨.st r,x⟩]
 |.tup r,x=>[.v ⟨.tup r,x⟩]
 |.int k,x=>[.v ⟨.int k,x⟩]
 |.bool,x=>[.v ⟨.bool,x⟩]
 |.str,x=>[.v ⟨.str,x⟩]
 |.sl t,x=>[.v ⟨.sl t,x⟩]
 |.ref t,x=>[.v ⟨.ref t,x⟩]
 |.arr n t,x=>[.v ⟨.arr n t,x⟩]
theorem zl5:∀(r:Ty)(x:r.D),js (zcn r x)=encC r x
 |.cons a r,x=>by simp only[zcn,js,TS.den,enc_cells,encC];rw[zl5 r]
 |.nil,_=>by simp only[zcn,js,encC]
 |.st r,x=>by simp only[zcn,js,TS.den,enc_cells,weq]
 |.tup r,x=>by simp only[zcn,js,TS.den,enc_cells,weq]
 |.int k,x=>by simp only[zcn,js,TS.den,enc_cells,weq]
 |.bool,x=>by simp only[zcn,js,TS.den,enc_cells,weq]
 |.str,x=>by simp only[zcn,js,TS.den,enc_cells,weq]
 |.sl t,x=>by simp only[zcn,js,TS.den,enc_cells,weq]
 |.ref t,x=>by simp only[zcn,js,TS.den,enc_cells,weq]
 |.arr n t,x=>by simp only[zcn,js,TS.den,enc_cells,weq]
def znn:TS->Option (List TS)
 |.v ⟨.st r,x⟩=>some (zcn r x)
 |.v ⟨.cons a r,x⟩=>some (zcn (.cons a r) x)
 |.agg xs=>some xs
 |.c (.agg vs)=>some (vs.toList.map .c)
 |_=>none
def Qx:TS->Bool
 |.v d=>Qr d.t
 |.c (.agg _)=>true
 |.agg _=>true
 |_=>false
theorem z5z{v:Value}(h:∀vs,v ≠ .agg vs):(ofV v).cells=[.u v]:=by cases v<;>first|rfl|exact absurd rfl (h _)
theorem z7k{s:TS}{xs:List TS}(h:znn s=some xs)(hc:∀vs,s=.c (.agg vs)->vs.toList.all Value.oneCell'=true):s.den=.agg (js xs):=by
 unfold znn at h;split at h
 ·cases h;simp only[TS.den,zl5];rfl
 ·cases h;simp only[TS.den,zl5];rfl
 ·cases h;simp only[TS.den]
 ·rename_i vs;cases h;have h1:=hc vs rfl;rw[we0]at h1;simp only[TS.den,ofV,zmb,List.flatMap_map];congr 1;have key:∀l:List Value,(∀v∈l,v.oneCell'=true)->l.map PV.u=l.flatMap λv=>(ofV v).cells:=by
   intro l;induction l with
   |nil=>intro _;rfl
   |cons v l ih=>
    intro h1;rw[wen,wex,ih λu hu=>h1 u (by simp[hu]),z5z]
    ·rfl
    ·rintro us rfl;have:=h1 (.agg us) (by simp);simp[Value.oneCell']at this
  exact key _ h1
 ·cases h
def zui:TS->Bool
 |.c (.agg vs)=>vs.toList.all Value.oneCell'
 |_=>true
theorem zet{s:TS}{xs:List TS}(h:znn s=some xs)(hc:zui s=true):s.den=.agg (js xs):=z7k h λvs e=>by subst e;exact hc
def Vl:Nat->Nat->List TS->Option (List TS×List TS)
 |_,0,xs=>some ([],xs)
 |0,_,_=>none
 |_+1,_+1,[]=>none
 |f+1,k+1,x::xs=>match Nat.ble (Yb x) (k+1)with
  |true=>match Vl f (k+1-Yb x) xs with
   |some r=>some (x::r.1,r.2)
   |none=>none
  |false=>match zui x with
   |true=>match znn x with
    |some ys=>Vl f (k+1) (ys++xs)
    |none=>none
   |false=>none
theorem Js:∀(f k:Nat)(xs:List TS)(r:List TS×List TS),Vl f k xs=some r->js r.1++js r.2=js xs/\(js r.1).length=k
 |0,0,xs,r,h=>by simp only[Vl]at h;cases h;simp only[js,wfx,wgp,and_self]
 |_+1,0,xs,r,h=>by simp only[Vl]at h;cases h;simp only[js,wfx,wgp,and_self]
 |0,_+1,xs,r,h=>by simp[Vl]at h
 |f+1,k+1,[],r,h=>by simp[Vl]at h
 |f+1,k+1,x::xs,r,h=>by
  simp only[Vl]at h;split at h
  ·rename_i hb;have hle:=wf1 hb;split at h
   ·rename_i r' hr;cases h;obtain⟨h1,h2⟩:=Js f _ xs r' hr;simp only[js,weu,h1,weo,h2,zg5,true_and];omega
   ·cases h
  ·split at h<;>try (cases h;done)
   rename_i hc;split at h<;>try (cases h;done)
   rename_i ys hy;obtain⟨h1,h2⟩:=Js f (k+1) (ys++xs) r h;refine⟨?_,h2⟩;rw[h1,znk];simp only[js,zet hy hc,PV.cells]
def zam(ag:Bool)(xs:List TS):TS:=match ag with
 |true=>match xs with
  |[x]=>match Qx x with
   |true=>x
   |false => .agg [x]
  |xs => .agg xs
 |false=>match xs with
  |[x]=>match Qx x with
   |false=>x
   |true=>match zui x,znn x with
    |true,some [y]=>match Qx y with
     |false=>y
     |true => .dead
    |_,_ => .dead
  |_ => .dead
theorem zbu{s:TS}(h:Qx s=true):s.den=.agg s.den.cells:=by
 unfold Qx at h;split at h
 ·simp only[TS.den,enc_cells];unfold enc mkV;rw[h]
 ·simp only[TS.den];rfl
 ·simp only[TS.den];rfl
 ·cases h
theorem Yf{s:TS}(h:Qx s=false):s.den.cells=[s.den]:=by
 cases s with
 |v d=>
  simp only[Qx]at h;simp only[TS.den,enc_cells];unfold enc mkV;rw[h];have hl:=ju d.t d.x;rw[zcm h]at hl
  match hc:encC d.t d.x,hl with
  |[c],_=>rfl
 |c v=>cases v<;>first|(simp only[TS.den];rfl)|(simp[Qx]at h)
 |agg xs=>simp[Qx]at h
 |_=>simp only[TS.den];rfl
theorem z5n{ag:Bool}{k:Nat}{xs:List TS}{rest:List PV}(hl:(js xs).length=k)(hk:ag=false->k=1):∃p,qw ag k (js xs++rest)=some p/\Ref p (zam ag xs).den:=by
 cases ag with
 |true=>
  refine⟨.agg (js xs),?_,?_⟩
  ·unfold qw;rw[if_pos rfl,if_pos (by simp;omega),<- hl];simp
  ·unfold zam;simp only;split
   ·rename_i x;split
    ·rename_i hx;rw[zbu hx];simp only[js,weq];exact Ref.refl _
    ·simp only[TS.den];exact Ref.refl _
   ·simp only[TS.den];exact Ref.refl _
 |false=>
  have hk:=hk rfl;subst hk
  match hc:js xs,hl with
  |[p],_=>
   refine⟨p,by simp[qw],?_⟩;unfold zam;simp only;split
   ·rename_i x;split
    ·rename_i hx;simp only[js,weq,Yf hx]at hc;cases hc;exact Ref.refl _
    ·split
     ·rename_i y hcs hy;split
      ·rename_i hya;have h1:js [y]=[p]:=by
        rw[<- hc];have:=zet hy hcs;simp only[js,weq,this,PV.cells]
       simp only[js,weq,Yf hya]at h1;cases h1;exact Ref.refl _
      ·simp only[TS.den];exact Ref.unk _
     ·simp only[TS.den];exact Ref.unk _
   ·simp only[TS.den];exact Ref.unk _
def ofC:(t:Ty)->Value->Option t.D
 |.int k,.int k' z=>match ikB k k' with
  |true=>some z
  |false=>none
 |.bool,.bool b=>some b
 |.str,.string s=>some s.data.toList
 |.sl _,.slice none 0 0=>some []
 |.ref _,.pointer none=>some none
 |_,_=>none
theorem ofC_ok{t:Ty}{v:Value}{x:t.D}(h:ofC t v=some x):Qr t=false/\(∀vs,v ≠ .agg vs)/\Ref (.u v) (enc t x):=by
 unfold ofC at h;split at h
 ·split at h<;>cases h;rename_i e;rw[zxh e];exact⟨rfl,(λvs e=>by cases e),Ref.refl _⟩
 ·cases h;exact⟨rfl,(λvs e=>by cases e),Ref.refl _⟩
 ·cases h;exact⟨rfl,(λvs e=>by cases e),Ref.refl _⟩
 ·cases h;exact⟨rfl,(λvs e=>by cases e),wcu _ _ _⟩
 ·cases h;exact⟨rfl,(λvs e=>by cases e),Ref.refl _⟩
 ·cases h
def Vj(t:Ty):TS->Option t.D
 |.v d=>d.as t
 |.c v=>ofC t v
 |_=>none
def zg2{α:Type}(f:TS->Option α)(ag:Bool)(w:Nat):Nat->List TS->Option (List α)
 |0,[]=>some []
 |0,_=>none
 |n+1,xs=>match Vl 512 w xs with
  |none=>none
  |some r=>match f (zam ag r.1)with
   |none=>none
   |some a=>match zg2 f ag w n r.2 with
    |none=>none
    |some l=>some (a::l)
def za1(s:TS):Option (List TS):=match zui s with
 |true=>znn s
 |false=>none
def z4n{α:Type}(n:Nat):Option (List α)->Option (Arr n α)
 |some l=>match h:Nat.beq l.length n with
  |true=>some ⟨l,wd9 h⟩
  |false=>none
 |none=>none
mutual
def toT:(t:Ty)->TS->Option t.D
 |.int k,s=>Vj (.int k) s
 |.bool,s=>Vj .bool s
 |.str,s=>Vj .str s
 |.sl t,s=>Vj (.sl t) s
 |.ref t,s=>match s with
  |.rd d=>match d.as t with
   |some x=>some (some x)
   |none=>none
  |s=>Vj (.ref t) s
 |.nil,s=>none
 |.cons _ _,s=>none
 |.st r,s=>match Vj (.st r) s with
  |some x=>some x
  |none=>match za1 s with
   |some xs=>toR r xs
   |none=>none
 |.arr n t,s=>match Vj (.arr n t) s with
  |some x=>some x
  |none=>match za1 s with
   |some xs=>z4n n (zg2 (toT t) (Qr t) (wid t) n xs)
   |none=>none
 |.tup r,s=>match s with
  |.tup xs=>toL r xs
  |s=>Vj (.tup r) s
def toR:(r:Ty)->List TS->Option r.D
 |.nil,[]=>some ()
 |.cons a r,xs=>match Vl 512 (wid a) xs with
  |none=>none
  |some q=>match toT a (zam (Qr a) q.1)with
   |none=>none
   |some x=>match toR r q.2 with
    |none=>none
    |some y=>some (x,y)
 |_,_=>none
def toL:(r:Ty)->List TS->Option r.D
 |.nil,[]=>some ()
 |.cons a r,x::xs=>match toT a x with
  |none=>none
  |some p=>match toL r xs with
   |none=>none
   |some y=>some (p,y)
 |_,_=>none
end
def TOk(s:TS)(t:Ty)(x:t.D):Prop:=RefL s.den.cells (encC t x)/\Ref s.den (enc t x)
theorem Y7{t:Ty}{s:TS}{x:t.D}(h:Vj t s=some x):TOk s t x:=by
 unfold Vj at h;split at h
 ·rename_i d;have:=wai h;subst this;unfold TOk;simp only[TS.den,enc_cells];exact⟨RefL.refl _,Ref.refl _⟩
 ·rename_i v;obtain⟨h1,h2,h3⟩:=ofC_ok h;have e:ofV v=.u v:=by cases v<;>first|rfl|exact absurd rfl (h2 _)
  unfold TOk;simp only[TS.den];rw[e];refine⟨?_,h3⟩;have e2:encC t x=[enc t x]:=by
   have h5:=ju t x;rw[zcm h1]at h5;unfold enc mkV;rw[h1]
   match hc:encC t x,h5 with
   |[c],_=>rfl
  rw[e2];exact RefL.cons h3 RefL.nil
 ·cases h
theorem Ya{ag:Bool}{xs:List TS}(h:zam ag xs ≠ .dead):(zam ag xs).den.cells=js xs:=by
 unfold zam at h⊢;cases ag with
 |true=>
  simp only at h⊢;split
  ·rename_i x;split
   ·simp only[js,weq]
   ·simp only[TS.den,PV.cells]
  ·simp only[TS.den,PV.cells]
 |false=>
  simp only at h⊢;split at h
  ·rename_i x;split at h
   ·rename_i hx;simp only[js,weq]
   ·rename_i hx;split at h
    ·rename_i y hcs hy;split at h
     ·rename_i hya;simp only[js,weq,zet hy hcs,PV.cells]
     ·exact absurd rfl h
    ·exact absurd rfl h
  ·exact absurd rfl h
theorem zyv(t:Ty):toT t .dead=none:=by cases t<;>simp[toT,Vj,za1,zui,znn]
theorem z1d{t:Ty}{f:TS->Option t.D}(hf:∀s x,f s=some x->TOk s t x)(hd:f .dead=none):∀(n:Nat)(xs:List TS)(l:List t.D),zg2 f (Qr t) (wid t) n xs=some l->RefL (js xs) (l.flatMap (encC t))
 |0,[],l,h=>by simp only[zg2]at h;cases h;simp only[js,whc];exact RefL.nil
 |0,_::_,l,h=>by simp[zg2]at h
 |n+1,xs,l,h=>by
  simp only[zg2]at h;split at h<;>try (cases h;done)
  rename_i r hr;split at h<;>try (cases h;done)
  rename_i a ha;split at h<;>try (cases h;done)
  rename_i l' hl;cases h;obtain⟨h1,h2⟩:=Js _ _ _ _ hr;have hnd:zam (Qr t) r.1 ≠ .dead:=λe=>by rw[e,hd]at ha;cases ha
  have h3:=(hf _ _ ha).1;rw[Ya hnd]at h3;rw[wex,<- h1];exact RefL.append h3 (z1d hf hd n r.2 l' hl)
theorem zrq{α:Type}{n:Nat}{o:Option (List α)}{v:Arr n α}(h:z4n n o=some v):o=some v.l:=by
 unfold z4n at h;split at h
 ·split at h<;>cases h;rfl
 ·cases h
theorem zef{s:TS}{xs:List TS}(h:za1 s=some xs):s.den=.agg (js xs):=by
 unfold za1 at h;split at h
 ·exact zet h (by assumption)
 ·cases h
mutual
theorem zaz:∀(t:Ty)(s:TS)(x:t.D),toT t s=some x->TOk s t x
 |.int k,s,x,h=>Y7 (by simpa only [toT]using h)
 |.bool,s,x,h=>Y7 (by simpa only [toT]using h)
 |.str,s,x,h=>Y7 (by simpa only [toT]using h)
 |.sl t,s,x,h=>Y7 (by simpa only [toT]using h)
 |.ref t,s,x,h=>by
  simp only[toT]at h;split at h
  ·rename_i d;split at h<;>cases h;rename_i y hy;have:=wai hy;subst this;unfold TOk;simp only[TS.den];exact⟨RefL.refl _,Ref.refl _⟩
  ·exact Y7 h
 |.nil,s,x,h=>by simp[toT]at h
 |.cons _ _,s,x,h=>by simp[toT]at h
 |.st r,s,x,h=>by
  simp only[toT]at h;split at h
  ·cases h;exact Y7 (by assumption)
  ·split at h<;>try (cases h;done)
   rename_i xs hp;have h1:=z8n r xs x h;unfold TOk;rw[zef hp];exact⟨h1,Ref.agg h1⟩
 |.arr n t,s,x,h=>by
  simp only[toT]at h;split at h
  ·cases h;exact Y7 (by assumption)
  ·split at h<;>try (cases h;done)
   rename_i xs hp;have h1:=z1d (λs x=>zaz t s x) (zyv t) _ _ _ (zrq h);unfold TOk;rw[zef hp];exact⟨h1,Ref.agg h1⟩
 |.tup r,s,x,h=>by
  simp only[toT]at h;split at h
  ·rename_i xs;have h1:=ja2 r xs x h;unfold TOk;simp only[TS.den];exact⟨RefL.cons (Ref.tup h1) RefL.nil,Ref.tup h1⟩
  ·exact Y7 h
theorem z8n:∀(r:Ty)(xs:List TS)(x:r.D),toR r xs=some x->RefL (js xs) (encC r x)
 |.nil,xs,x,h=>by
  cases xs with
  |nil=>simp only[js,encC];exact RefL.nil
  |cons _ _=>simp[toR]at h
 |.cons a r,xs,x,h=>by
  simp only[toR]at h;split at h<;>try (cases h;done)
  rename_i q hq;split at h<;>try (cases h;done)
  rename_i p hp;split at h<;>try (cases h;done)
  rename_i y hy;cases h;obtain⟨h1,h2⟩:=Js _ _ _ _ hq;have hnd:zam (Qr a) q.1 ≠ .dead:=λe=>by rw[e,zyv]at hp;cases hp
  have h3:=(zaz a _ _ hp).1;rw[Ya hnd]at h3;simp only[encC];rw[<- h1];exact RefL.append h3 (z8n r q.2 y hy)
 |.int k,xs,x,h=>by simp[toR]at h
 |.bool,xs,x,h=>by simp[toR]at h
 |.str,xs,x,h=>by simp[toR]at h
 |.sl t,xs,x,h=>by simp[toR]at h
 |.ref t,xs,x,h=>by simp[toR]at h
 |.st r,xs,x,h=>by simp[toR]at h
 |.arr n t,xs,x,h=>by simp[toR]at h
 |.tup r,xs,x,h=>by simp[toR]at h
theorem ja2:∀(r:Ty)(xs:List TS)(x:r.D),toL r xs=some x->RefL (yk xs) (vz r (encC r x))
 |.nil,xs,x,h=>by
  cases xs with
  |nil=>simp only[yk,vz];exact RefL.nil
  |cons _ _=>simp[toL]at h
 |.cons a r,xs,x,h=>by
  cases xs with
  |nil=>simp[toL]at h
  |cons z xs=>
   simp only[toL]at h;split at h<;>try (cases h;done)
   rename_i p hp;split at h<;>try (cases h;done)
   rename_i y hy;cases h;simp only[yk,encC,vz];have hl:=ju a p;rw[wg3 hl,wgo hl];exact RefL.cons (zaz a z p hp).2 (ja2 r xs y hy)
 |.int k,xs,x,h=>by simp[toL]at h
 |.bool,xs,x,h=>by simp[toL]at h
 |.str,xs,x,h=>by simp[toL]at h
 |.sl t,xs,x,h=>by simp[toL]at h
 |.ref t,xs,x,h=>by simp[toL]at h
 |.st r,xs,x,h=>by simp[toL]at h
 |.arr n t,xs,x,h=>by simp[toL]at h
 |.tup r,xs,x,h=>by simp[toL]at h
end
inductive RK where
 |mp (kt vt:Ty)
 |si
@[reducible] def RK.ty:RK->Ty
 |.mp kt vt => .sl (.st (.cons kt (.cons vt .nil)))
 |.si => .st (.cons .str (.cons (.int .i64) .nil))
def RK.eqB:RK->RK->Bool
 |.mp a b,.mp c d=>a.eqB c && b.eqB d
 |.si,.si=>true
 |_,_=>false
theorem wcd{a b:RK}(h:a.eqB b=true):a=b:=by
 cases a<;>cases b<;>simp only[RK.eqB]at h<;>first|cases h;done|skip
 ·simp only[wd8]at h;rw[Ty.eqB_eq h.1,Ty.eqB_eq h.2]
 ·rfl
def RK.dflt:(k:RK)->k.ty.D
 |.mp _ _=>[]
 |.si=>([],0,())
def uV:PV->Value
 |.u v=>v
 |_=>undef
def oVs(t:Ty)(x:t.D):List Value:=(encC t x).map uV
def oV(t:Ty)(x:t.D):Value:=match Qr t with
 |true => .agg (oVs t x).toArray
 |false=>(oVs t x).headD undef
def RK.den:(k:RK)->k.ty.D->PBody
 |.mp kt vt,l=>z6h (l.map λe=>(oV kt e.1,oV vt e.2.1))
 |.si,x => .raw true [] λ_ o _=>o=.stringIter ⟨⟨x.1⟩⟩ x.2.1.toNat
theorem RK.den_raw(k:RK)(x:k.ty.D):∃p φ,k.den x=.raw p [] φ:=by
 cases k
 ·exact⟨_,_,rfl⟩
 ·exact⟨_,_,rfl⟩
inductive BD where
 | row (tid : TypeId) (t : Ty) (l : List t.D)   -- elements that are told
 | rowx (tid : TypeId) (k : Nat) (xs : List TS) -- elements, one by one
 | box (tid : TypeId) (xs : List TS)            -- parts
 | obj (k : RK) (x : k.ty.D)                    -- no cells
def BD.den:BD->PBody
 |.row tid t l => .row tid (wid t) l.length (l.flatMap (encC t))
 |.rowx tid k xs => .row tid k xs.length (js xs)
 |.box tid xs => .box tid (js xs)
 |.obj k x=>k.den x
structure GB where
 ver:Nat
 b:Option BD
abbrev EF:=Nat->TS
abbrev EG:=Nat->GB
def EF.put(E:EF)(d:Option Nat)(s:TS):EF:=λt=>match d with
 |none=>E t
 |some d=>match Nat.beq d t with
  |true=>s
  |false=>E t
def EG.empty:EG:=λ_=>⟨0,none⟩
def EG.set(G:EG)(id:Nat)(x:GB):EG:=λi=>match Nat.beq i id with
 |true=>x
 |false=>G i
def zj(E:EF):PFrame:=λt=>(E t).den
def qj(x:GB):zcb:=⟨x.ver,x.b.map BD.den⟩
def z7e(G R:PHeap):PHeap:=λi=>if i % 2=0 then G (i / 2)else R (i / 2)
def qf(G:EG)(R:PHeap):PHeap:=z7e (λi=>qj (G i)) R
theorem qe(G:EG)(R:PHeap)(i:Nat):qf G R (2*i)=qj (G i):=by
 unfold qf z7e;rw[if_pos (by omega)];congr 2;omega
theorem zg(G:EG)(R:PHeap)(i:Nat):qf G R (2*i+1)=R i:=by
 unfold qf z7e;rw[if_neg (by omega)];congr 1;omega
theorem zrd(E:EF)(d:Option Nat)(s:TS):zj (E.put d s)=(zj E).put d s.den:=by
 funext t;unfold zj EF.put PFrame.put;cases d with
 |none=>simp
 |some d=>
  simp only;by_cases e:d=t
  ·subst e;simp
  ·have:Nat.beq d t=false:=by cases h:Nat.beq d t;rfl;exact absurd (wd9 h) e
   rw[this];simp[e]
theorem z9z(G:EG)(R:PHeap)(id:Nat)(x:GB):qf (G.set id x) R=(qf G R).set (2*id) (qj x):=by
 funext Y;unfold PHeap.set;by_cases e:Y=2*id
 ·subst e;rw[if_pos rfl,qe];unfold EG.set;simp
 ·rw[if_neg e];unfold qf z7e;by_cases h2:Y % 2=0
  ·rw[if_pos h2,if_pos h2];unfold EG.set;have:Nat.beq (Y / 2) id=false:=by
    cases h:Nat.beq (Y / 2) id
    ·rfl
    ·have:=wd9 h;omega
   simp only[this]
  ·rw[if_neg h2,if_neg h2]
def evE(E:EF):Operand->TS
 |.tmp t=>E t
 |.const v => .c v
 |.global _ => .dead
 |.func f => .fn (.func f) [] []
theorem zw8(E:EF)(x:Operand):evP (zj E) x=(evE E x).den:=by
 cases x<;>simp only[evP,evE,zj,TS.den,yk]
inductive HS where
 |v (t:Ty)
 |rd (t:Ty)
 |own (X:Nat)
 |pt (X off:Nat)
 |dead
 |ci (k:IntKind) (z:Int)
 |cb (b:Bool)
 |fn (f:FuncId) (a b:List HS)
 |agg (xs:List HS)
 |tup (xs:List HS)
inductive HB where
 |row (tid:TypeId) (t:Ty)
 |rowx (tid:TypeId) (k:Nat) (xs:List HS)
 |box (tid:TypeId) (xs:List HS)
 |obj (k:RK)
structure LH where
 slots:List (Nat×HS)
 heap:List (Nat×HB)
 nx:Nat
inductive MV where
 |id (i ver:Nat)
 |nil
def jc7:Value->Bool
 |.slice none 0 0=>true
 |_=>false
theorem z5f{v:Value}(h:jc7 v=true):v=.slice none 0 0:=by
 unfold jc7 at h;split at h
 ·rfl
 ·cases h
mutual
def je0:HS->Nat
 |.v t=>wid t
 |.agg xs=>jf3 xs
 |_=>1
def jf3:List HS->Nat
 |[]=>0
 |h::hs=>je0 h+jf3 hs
end
def zsb:HS->Bool
 |.v t=>Qr t
 |.agg _=>true
 |_=>false
abbrev PR:=List Dyn×List (Nat×MV)
def wa3(a b:PR):PR:=(a.1++b.1,a.2++b.2)
def z6x(a b:Option PR):Option PR:=match a with
 |none=>none
 |some x=>match b with
  |none=>none
  |some y=>some (wa3 x y)
theorem Zk{a b:Option PR}{r:PR}(h:z6x a b=some r):∃x y,a=some x/\b=some y/\r=wa3 x y:=by
 unfold z6x at h;split at h<;>try (cases h;done)
 split at h<;>cases h;exact⟨_,_,rfl,rfl,rfl⟩
mutual
def Jl:HS->TS->Option PR
 |.v t,s=>match toT t s with
  |some x=>some ([⟨t,x⟩],[])
  |none=>none
 |.rd t,s=>match s with
  |.rd d=>match d.as t with
   |some x=>some ([⟨t,x⟩],[])
   |none=>none
  |_=>none
 |.own X,s=>match s with
  |.own id ver=>some ([],[(X,.id id ver)])
  |.c v=>match jc7 v with
   |true=>some ([],[(X,.nil)])
   |false=>none
  |_=>none
 |.pt X off,s=>match s with
  |.pt id off' ver=>match Nat.beq off off' with
   |true=>some ([],[(X,.id id ver)])
   |false=>none
  |_=>none
 |.dead,_=>some ([],[])
 |.ci k z,s=>match s with
  |.c (.int k' z')=>match (Ty.int k).eqB (.int k') && decide (z=z')with
   |true=>some ([],[])
   |false=>none
  |_=>none
 |.cb b,s=>match s with
  |.c (.bool b')=>match b == b' with
   |true=>some ([],[])
   |false=>none
  |_=>none
 |.fn f a b,s=>match s with
  |.fn (.func f') a' b'=>match Nat.beq f f' with
   |true=>z6x (Y8 a a') (Y8 b b')
   |false=>none
  |_=>none
 |.agg hs,s=>match za1 s with
  |some xs=>zav hs xs
  |none=>none
 |.tup hs,s=>match s with
  |.tup xs=>Y8 hs xs
  |_=>none
def Y8:List HS->List TS->Option PR
 |[],[]=>some ([],[])
 |h::hs,x::xs=>z6x (Jl h x) (Y8 hs xs)
 |_,_=>none
def zav:List HS->List TS->Option PR
 |[],[]=>some ([],[])
 |h::hs,xs=>match Vl 512 (je0 h) xs with
  |none=>none
  |some q=>match zam (zsb h) q.1 with
   |.dead=>none
   |s=>z6x (Jl h s) (zav hs q.2)
 |[],_::_=>none
end
mutual
def zii:HS->Nat
 |.v _=>1
 |.rd _=>1
 |.fn _ a b=>zar a+zar b
 |.agg xs=>zar xs
 |.tup xs=>zar xs
 |_=>0
def zar:List HS->Nat
 |[]=>0
 |h::hs=>zii h+zar hs
end
def nth(ds:List Dyn)(i:Nat):Dyn:=ds.getD i ⟨.nil,()⟩
mutual
def unT(ds:List Dyn):HS->Nat->TS
 |.v _,j => .v (nth ds j)
 |.rd _,j => .rd (nth ds j)
 |.own X,_ => .own X 1
 |.pt X off,_ => .pt X off 1
 |.dead,_ => .dead
 |.ci k z,_ => .c (.int k z)
 |.cb b,_ => .c (.bool b)
 |.fn f a b,j => .fn (.func f) (zfx ds a j) (zfx ds b (j+zar a))
 |.agg xs,j => .agg (zfx ds xs j)
 |.tup xs,j => .tup (zfx ds xs j)
def zfx(ds:List Dyn):List HS->Nat->List TS
 |[],_=>[]
 |h::hs,j=>unT ds h j::zfx ds hs (j+zii h)
end
def jf0:PR:=([],[])
inductive IdOk(b:Nat):PV->Prop
 |noP {p:PV}(h:NoP p):IdOk b p
 |unk:IdOk b .unk
 |ps {i ver:Nat}(h:i % 2=1\/i<2*b):IdOk b (.ps i ver)
 |qs {i off k ver:Nat}(h:i % 2=1\/i<2*b):IdOk b (.qs i off k ver)
 |pp {i off ver:Nat}(h:i % 2=1\/i<2*b):IdOk b (.pp i off ver)
 |fn {f:Fn}{x y:List PV}(hx:∀p∈x,IdOk b p) (hy:∀p∈y,IdOk b p):IdOk b (.fn f x y)
 |agg {xs:List PV}(h:∀p∈xs,IdOk b p):IdOk b (.agg xs)
 |tup {xs:List PV}(h:∀p∈xs,IdOk b p):IdOk b (.tup xs)
inductive Fl:PV->Prop
 |noP {p:PV}(h:NoP p):Fl p
 |unk:Fl .unk
 |ps {i ver:Nat}:Fl (.ps i ver)
 |qs {i off k ver:Nat}:Fl (.qs i off k ver)
 |pp {i off ver:Nat}:Fl (.pp i off ver)
 |fn {f:Fn}{x y:List PV}(hx:∀p∈x,Fl p) (hy:∀p∈y,Fl p):Fl (.fn f x y)
 |agg {xs:List PV}(h:∀p∈xs,Fl p):Fl (.agg xs)
 |tup {xs:List PV}(h:∀p∈xs,Fl p):Fl (.tup xs)
theorem IdOk.fl{b:Nat}{p:PV}(h:IdOk b p):Fl p:=by
 induction h with
 |noP h=>exact .noP h
 |unk=>exact .unk
 |ps _=>exact .ps
 |qs _=>exact .qs
 |pp _=>exact .pp
 |fn _ _ ih1 ih2=>exact .fn ih1 ih2
 |agg _ ih=>exact .agg ih
 |tup _ ih=>exact .tup ih
theorem Fl.cells{p:PV}(h:Fl p):∀c∈p.cells,Fl c:=by
 cases h with
 |noP h=>exact λc hc=> .noP (h.cell hc)
 |agg h=>exact h
 |unk=>intro c hc;simp only[PV.cells,wea]at hc;subst hc;exact .unk
 |ps=>intro c hc;simp only[PV.cells,wea]at hc;subst hc;exact .ps
 |qs=>intro c hc;simp only[PV.cells,wea]at hc;subst hc;exact .qs
 |pp=>intro c hc;simp only[PV.cells,wea]at hc;subst hc;exact .pp
 |fn hx hy=>intro c hc;simp only[PV.cells,wea]at hc;subst hc;exact .fn hx hy
 |tup h=>intro c hc;simp only[PV.cells,wea]at hc;subst hc;exact .tup h
theorem zes (v : Value) : NoP (ofV v) := by
  cases v <;> first
    | exact .u _
    | (refine .agg _ fun c hc => ?_
       obtain ⟨z, _, rfl⟩ := wef.1 hc
       exact .u z)
mutual
theorem zl6:∀s:TS,Fl s.den
 |.v d=>by simp only[TS.den];exact .noP (Q7 _ _)
 |.c v=>by simp only[TS.den];exact .noP (zes v)
 |.own _ _=>by simp only[TS.den];exact .ps
 |.q _ _ _ _=>by simp only[TS.den];exact .qs
 |.pt _ _ _=>by simp only[TS.den];exact .pp
 |.elt _ _ _ _ _=>by simp only[TS.den];exact .pp
 |.rd d=>by simp only[TS.den];exact .noP (.rp _ (yi _ _))
 |.dead=>by simp only[TS.den];exact .unk
 |.fn f a b=>by simp only[TS.den];exact .fn (zk7 a) (zk7 b)
 |.agg xs=>by simp only[TS.den];exact .agg (zo8 xs)
 |.tup xs=>by simp only[TS.den];exact .tup (zk7 xs)
theorem zk7:∀xs:List TS,∀p∈yk xs,Fl p
 |[],p,h=>by simp[yk]at h
 |x::xs,p,h=>by
  simp only[yk,wep]at h;rcases h with rfl|h
  ·exact zl6 x
  ·exact zk7 xs p h
theorem zo8:∀xs:List TS,∀p∈js xs,Fl p
 |[],p,h=>by simp[js]at h
 |x::xs,p,h=>by
  simp only[js,wej]at h;rcases h with h|h
  ·exact(zl6 x).cells p h
  ·exact zo8 xs p h
end
def zh0:PBody->List PV
 |.row _ _ _ cs=>cs
 |.box _ cs=>cs
 |.raw _ cs _=>cs
def FlB(x:zcb):Prop:=∀bd,x.body=some bd->∀c∈zh0 bd,Fl c
theorem zw6(x:GB):FlB (qj x):=λbd h c hc=>by
 unfold qj at h;cases hb:x.b with
 |none=>rw[hb]at h;cases h
 |some b=>
  rw[hb]at h;simp only[wer,we6]at h;subst h;cases b with
  |row tid t l=>
   simp only[BD.den,zh0]at hc;obtain⟨x,_,hx⟩:=wfe.1 hc;exact .noP (yi t x c hx)
  |rowx tid k xs=>exact zo8 xs c hc
  |box tid xs=>exact zo8 xs c hc
  |obj k x=>cases k<;>simp[BD.den,RK.den,z6h,zh0]at hc
structure FlW(W:Env)(F:PFrame)(H:PHeap):Prop where
 g:∀i,Fl (W.G i)
 f:∀t,Fl (F t)
 h:∀k,FlB (H k)
section
variable{Z:ZM}{H H' : PHeap}{V V' : Nat → Value}{w:World}{b:Nat}
theorem Rp.keep{p:PV}{v:Value}(h:Rp Z H V w p v)(hi:IdOk b p)
  (hz:∀c,c<w.heap.size->¬PZ Z H V c->¬PZ Z H' V' c)
  (hk:∀i,(i % 2=1\/i<2*b)->(H' i).ver=(H i).ver/\((H' i).body.isSome=true->(H i).body.isSome=true/\V' i=V i)):Rp Z H' V' w p v:=by
 induction h with
 |ps i ver v hv h=>
  cases hi with
  |noP hn=>cases hn
  |ps hb=>
   obtain⟨h1,h2⟩:=hk i hb;exact .ps i ver v (by rw[h1];exact hv) λh3 h4=>by rw[(h2 h3).2];exact h (h2 h3).1 (by rw[<- h1];exact h4)
 |qs i off k ver v hv h=>
  cases hi with
  |noP hn=>cases hn
  |qs hb=>
   obtain⟨h1,h2⟩:=hk i hb;exact .qs i off k ver v (by rw[h1];exact hv) λh3 h4=>by rw[(h2 h3).2];exact h (h2 h3).1 (by rw[<- h1];exact h4)
 |pp i off ver v hv h=>
  cases hi with
  |noP hn=>cases hn
  |pp hb=>
   obtain⟨h1,h2⟩:=hk i hb;exact .pp i off ver v (by rw[h1];exact hv) λh3 h4=>by rw[(h2 h3).2];exact h (h2 h3).1 (by rw[<- h1];exact h4)
 |fn f a b' va vb hla hlb ha hb' iha ihb=>
  cases hi with
  |noP hn=>cases hn with
   |fn _ _ _ k1 k2=>exact .fn f a b' va vb hla hlb (λi p v h1 h2=>iha i p v h1 h2 (.noP (k1 p (wd7 h1)))) (λi p v h1 h2=>ihb i p v h1 h2 (.noP (k2 p (wd7 h1))))
  |fn k1 k2=>exact .fn f a b' va vb hla hlb (λi p v h1 h2=>iha i p v h1 h2 (k1 p (wd7 h1))) (λi p v h1 h2=>ihb i p v h1 h2 (k2 p (wd7 h1)))
 |agg cs vs hl h ih=>
  cases hi with
  |noP hn=>cases hn with
   |agg _ k1=>exact .agg cs vs hl λi p v h1 h2=>ih i p v h1 h2 (.noP (k1 p (wd7 h1)))
  |agg k1=>exact .agg cs vs hl λi p v h1 h2=>ih i p v h1 h2 (k1 p (wd7 h1))
 |tup cs vs hl h ih=>
  cases hi with
  |noP hn=>cases hn with
   |tup _ k1=>exact .tup cs vs hl λi p v h1 h2=>ih i p v h1 h2 (.noP (k1 p (wd7 h1)))
  |tup k1=>exact .tup cs vs hl λi p v h1 h2=>ih i p v h1 h2 (k1 p (wd7 h1))
 |unk v=>exact .unk v
 |u v=>exact .u v
 |nil k a c=>exact .nil k a c
 |sl k xs b' o c g hu hlen hz' hb' h1 h2 ih=>
  cases hi with
  |noP hn=>exact Rp.noP (.sl k xs b' o c g hu hlen hz' hb' h1 h2) hn hz
 |fr t k xs v vals hu ho hz' h1 h2 ih=>
  cases hi with
  |noP hn=>exact Rp.noP (.fr t k xs v vals hu ho hz' h1 h2) hn hz
 |rp cs b' o g hz' hb' h1 h2 ih=>
  cases hi with
  |noP hn=>exact Rp.noP (.rp cs b' o g hz' hb' h1 h2) hn hz
def jcq(Z:ZM)(H H':PHeap)(V V':Nat->Value)(w:World)(X:Nat):MV->Prop
 |.id i ver=>(∀v,Rp Z H V w (.ps (2*i) ver) v->Rp Z H' V' w (.ps (2*X) 1) v)/\∀off v,Rp Z H V w (.pp (2*i) off ver) v->Rp Z H' V' w (.pp (2*X) off 1) v
 |.nil=>Rp Z H' V' w (.ps (2*X) 1) (.slice none 0 0)
theorem ze5{a c:List Dyn}{d:Dyn}{ds:List Dyn}(h:ds=a++d::c):nth ds a.length=d:=by subst h;unfold nth;simp
theorem RpL.append{ps qs:List PV}{vs us:List Value}(h1:RpL Z H V w ps vs)(h2:RpL Z H V w qs us):RpL Z H V w (ps++qs) (vs++us):=⟨by simp[h1.1,h2.1],λi p v h3 h4=>by
 by_cases hi:i<ps.length
 ·rw[weg hi]at h3;rw[weg (by rw[<- h1.1];exact hi)]at h4;exact h1.2 i p v h3 h4
 ·rw[wei (by omega)]at h3;rw[wei (by rw[<- h1.1];omega),<- h1.1]at h4;exact h2.2 _ p v h3 h4⟩
theorem RpL.split{ps qs:List PV}{vs:List Value}(h:RpL Z H V w (ps++qs) vs):RpL Z H V w ps (vs.take ps.length)/\RpL Z H V w qs (vs.drop ps.length):=by
 have hl:=h.1;simp at hl;refine⟨⟨by simp;omega,λi p v h3 h4=>?_⟩,⟨by simp;omega,λi p v h3 h4=>?_⟩⟩
 ·have hi:=(wd5.1 h3).1;refine h.2 i p v (by rw[weg hi];exact h3) ?_;rw[wfm,if_pos hi]at h4;exact h4
 ·refine h.2 (ps.length+i) p v (by rw[wei (by omega),Nat.add_sub_cancel_left];exact h3) ?_;rw[we5]at h4;exact h4
theorem z96{xs:List PV}{v:Value}(h:Rp Z H V w (.agg xs) v):∃vs:Array Value,v=.agg vs/\RpL Z H V w xs vs.toList:=by
 cases h with
 |agg _ vs hl h=>exact⟨vs,rfl,by simpa using hl,λi p u h1 h2=>h i p u h1 (by simpa using h2)⟩
theorem zuk{xs:List PV}{vs:Array Value}(h:RpL Z H V w xs vs.toList):Rp Z H V w (.agg xs) (.agg vs) :=.agg _ _ (by simpa using h.1) λi p v h1 h2=>h.2 i p v h1 (by simpa using h2)
theorem z9u{s t:TS}(hc:∀v,Rp Z H V w s.den v->Rp Z H' V' w t.den v)(hs:Qx s=Qx t){vs:List Value}(h:RpL Z H V w s.den.cells vs):RpL Z H' V' w t.den.cells vs:=by
 cases hp:Qx s
 ·have e1:=Yf hp;have e2:=Yf (hs▸hp);rw[e1]at h;rw[e2]
  match vs,h with
  |[v],h=>exact⟨rfl,λi p' u h3 h4=>by
    cases i with
    |zero=>simp at h3 h4;subst h3 h4;exact hc _ (h.2 0 _ v rfl rfl)
    |succ i=>simp at h3⟩
  |[],h=>have:=h.1;simp at this
  |_::_::_,h=>have:=h.1;simp at this
 ·have e1:=zbu hp;have e2:=zbu (hs▸hp);have h1:Rp Z H V w s.den (.agg vs.toArray):=by rw[e1];exact zuk (by simpa using h)
  have:=hc _ h1;rw[e2]at this;obtain⟨us,e,h2⟩:=z96 this;cases e;simpa using h2
theorem jb6{ds pre post:List Dyn}{h:HS}{s:TS}{r:PR}(hp:Jl h s=some r)(hds:ds=pre++r.1++post)(hd:h ≠ .dead):Qx (unT ds h pre.length)=zsb h:=by
 cases h with
 |v t=>
  simp only[Jl]at hp;split at hp<;>cases hp;rename_i x hx;simp only[unT,Qx,zsb];rw[ze5 (a:=pre) (c:=post) (d:=⟨t,x⟩) (by rw[hds];simp)]
 |dead=>exact absurd rfl hd
 |_=>simp only[unT,Qx,zsb]
def TreeOk(Z:ZM)(H H':PHeap)(V V':Nat->Value)(w:World)(ds:List Dyn)(h:HS)(s:TS)(r:PR)(j:Nat):Prop:=
 r.1.length=zii h/\(∀v,Rp Z H V w s.den v->Rp Z H' V' w (unT ds h j).den v)
theorem jdu{s:TS}{xs:List TS}(h:za1 s=some xs){v:Value}(hv:Rp Z H V w s.den v):∃vs:Array Value,v=.agg vs/\RpL Z H V w (js xs) vs.toList:=by
 rw[zef h]at hv;exact z96 hv
mutual
theorem z19(hT:∀p v,NoP p->Rp Z H V w p v->Rp Z H' V' w p v)(ds:List Dyn):∀(h:HS)(s:TS)(r:PR)(pre post:List Dyn),Jl h s=some r->ds=pre++r.1++post->(∀m∈r.2,jcq Z H H' V V' w m.1 m.2)->TreeOk Z H H' V V' w ds h s r pre.length
 |.v t,s,r,pre,post,hp,hds,hg=>by
  simp only[Jl]at hp;split at hp<;>cases hp;rename_i x hx;refine⟨rfl,λv hv=>?_⟩;simp only[unT,TS.den];rw[ze5 (a:=pre) (c:=post) (d:=⟨t,x⟩) (by rw[hds];simp)];exact hT _ _ (Q7 _ _) ((zaz _ _ _ hx).2 _ _ _ _ _ hv)
 |.rd t,s,r,pre,post,hp,hds,hg=>by
  simp only[Jl]at hp;split at hp<;>try (cases hp;done)
  rename_i d;split at hp<;>cases hp;rename_i x hx;have:=wai hx;subst this;refine⟨rfl,λv hv=>?_⟩;simp only[unT,TS.den]at hv⊢;rw[ze5 (a:=pre) (c:=post) (d:=⟨t,x⟩) (by rw[hds];simp)];exact hT _ _ (.rp _ (yi _ _)) hv
 |.own X,s,r,pre,post,hp,hds,hg=>by
  simp only[Jl]at hp;split at hp<;>try (cases hp;done)
  ·rename_i id ver;cases hp;refine⟨rfl,λv hv=>?_⟩;simp only[unT,TS.den]at hv⊢;exact(hg (X,.id id ver) (by simp)).1 v hv
  ·split at hp<;>cases hp;rename_i v0 hn;refine⟨rfl,λv hv=>?_⟩;rw[z5f hn]at hv;simp only[TS.den,ofV]at hv;cases hv;simp only[unT,TS.den];exact hg (X,.nil) (by simp)
 |.pt X off,s,r,pre,post,hp,hds,hg=>by
  simp only[Jl]at hp;split at hp<;>try (cases hp;done)
  rename_i id off' ver;split at hp<;>cases hp;rename_i ho;have:=wd9 ho;subst this;refine⟨rfl,λv hv=>?_⟩;simp only[unT,TS.den]at hv⊢;exact(hg (X,.id id ver) (by simp)).2 off v hv
 |.dead,s,r,pre,post,hp,hds,hg=>by
  simp only[Jl]at hp;cases hp;exact⟨rfl,λv _=>by simp only[unT,TS.den];exact .unk v⟩
 |.ci k z,s,r,pre,post,hp,hds,hg=>by
  simp only[Jl]at hp;split at hp<;>try (cases hp;done)
  split at hp<;>cases hp;rename_i hb;simp only[wd8,wed]at hb;have h1:=Ty.eqB_eq hb.1;have h2:=hb.2;cases h1;subst h2;refine⟨rfl,λv hv=>?_⟩;simp only[unT];exact hT _ _ (by simp only[TS.den];exact zes _) hv
 |.cb b,s,r,pre,post,hp,hds,hg=>by
  simp only[Jl]at hp;split at hp<;>try (cases hp;done)
  split at hp<;>cases hp;rename_i hb;have h2:=eq_of_beq hb;subst h2;refine⟨rfl,λv hv=>?_⟩;simp only[unT];exact hT _ _ (by simp only[TS.den];exact zes _) hv
 |.fn f a b,s,r,pre,post,hp,hds,hg=>by
  simp only[Jl]at hp;split at hp<;>try (cases hp;done)
  rename_i f' a' b';split at hp<;>try (cases hp;done)
  rename_i hf;have:=wd9 hf;subst this;obtain⟨x,y,hx,hy,rfl⟩:=Zk hp;simp only[wa3]at hds hg;have k1:=zpe hT ds a a' x pre (y.1++post) hx (by rw[hds];simp) (λm hm=>hg m (by simp[hm]));have k2:=zpe hT ds b b' y (pre++x.1) post hy (by rw[hds];simp) (λm hm=>hg m (by simp[hm]));have el:(pre++x.1).length=pre.length+zar a:=by simp[k1.1]
  rw[el]at k2;refine⟨by simp[wa3,zii,k1.1,k2.1],λv hv=>?_⟩;simp only[TS.den,unT]at hv⊢;cases hv with
  |fn _ _ _ va vb hla hlb h1 h2=>
   have r1:=k1.2 va.toList ⟨by simpa using hla,λi p v h3 h4=>h1 i p v h3 (by simpa using h4)⟩;have r2:=k2.2 vb.toList ⟨by simpa using hlb,λi p v h3 h4=>h2 i p v h3 (by simpa using h4)⟩;exact .fn _ _ _ _ _ (by simpa using r1.1) (by simpa using r2.1) (λi p v h3 h4=>r1.2 i p v h3 (by simpa using h4)) (λi p v h3 h4=>r2.2 i p v h3 (by simpa using h4))
 |.agg hs,s,r,pre,post,hp,hds,hg=>by
  simp only[Jl]at hp;split at hp<;>try (cases hp;done)
  rename_i xs hx;have k:=zpb hT ds hs xs r pre post hp hds hg;refine⟨by simp[zii,k.1],λv hv=>?_⟩;obtain⟨vs,rfl,h1⟩:=jdu hx hv;simp only[unT,TS.den];exact zuk (k.2 _ h1)
 |.tup hs,s,r,pre,post,hp,hds,hg=>by
  simp only[Jl]at hp;split at hp<;>try (cases hp;done)
  rename_i xs;have k:=zpe hT ds hs xs r pre post hp hds hg;refine⟨by simp[zii,k.1],λv hv=>?_⟩;simp only[unT,TS.den]at hv⊢;cases hv with
  |tup _ vs hl hh=>
   have:=k.2 vs.toList ⟨by simpa using hl,λi p v h3 h4=>hh i p v h3 (by simpa using h4)⟩;exact .tup _ vs (by simpa using this.1) (λi p v h3 h4=>this.2 i p v h3 (by simpa using h4))
theorem zpe(hT:∀p v,NoP p->Rp Z H V w p v->Rp Z H' V' w p v)(ds:List Dyn):∀(hs:List HS)(xs:List TS)(r:PR)(pre post:List Dyn),Y8 hs xs=some r->ds=pre++r.1++post->(∀m∈r.2,jcq Z H H' V V' w m.1 m.2)->r.1.length=zar hs/\∀vs,RpL Z H V w (yk xs) vs->RpL Z H' V' w (yk (zfx ds hs pre.length)) vs
 |[],xs,r,pre,post,hp,hds,hg=>by
  cases xs with
  |nil=>simp only[Y8]at hp;cases hp;exact⟨rfl,λvs h=>by simp only[zfx,yk]at h⊢;exact⟨h.1,λi p v h1=>by simp at h1⟩⟩
  |cons _ _=>simp[Y8]at hp
 |h::hs,xs,r,pre,post,hp,hds,hg=>by
  cases xs with
  |nil=>simp[Y8]at hp
  |cons x xs=>
   simp only[Y8]at hp;obtain⟨q,y,hx,hy,rfl⟩:=Zk hp;simp only[wa3]at hds hg;have k1:=z19 hT ds h x q pre (y.1++post) hx (by rw[hds];simp) (λm hm=>hg m (by simp[hm]));have k2:=zpe hT ds hs xs y (pre++q.1) post hy (by rw[hds];simp) (λm hm=>hg m (by simp[hm]));have el:(pre++q.1).length=pre.length+zii h:=by simp[k1.1]
   rw[el]at k2;refine⟨by simp[wa3,zar,k1.1,k2.1],λvs hv=>?_⟩;simp only[yk,zfx]at hv⊢
   match vs,hv with
   |[],hv=>have:=hv.1;simp at this
   |u::vs,hv=>
    have h2:=k2.2 vs ⟨by have:=hv.1;simpa using this,λi p v h3 h4=>hv.2 (i+1) p v (by simpa using h3) (by simpa using h4)⟩;have h1:=k1.2 u (hv.2 0 _ u rfl rfl);refine⟨by simp[h2.1],λi p v h3 h4=>?_⟩;cases i with
    |zero=>simp at h3 h4;subst h3 h4;exact h1
    |succ i=>exact h2.2 i p v (by simpa using h3) (by simpa using h4)
theorem zpb(hT:∀p v,NoP p->Rp Z H V w p v->Rp Z H' V' w p v)(ds:List Dyn):∀(hs:List HS)(xs:List TS)(r:PR)(pre post:List Dyn),zav hs xs=some r->ds=pre++r.1++post->(∀m∈r.2,jcq Z H H' V V' w m.1 m.2)->r.1.length=zar hs/\∀vs,RpL Z H V w (js xs) vs->RpL Z H' V' w (js (zfx ds hs pre.length)) vs
 |[],xs,r,pre,post,hp,hds,hg=>by
  cases xs with
  |nil=>simp only[zav]at hp;cases hp;exact⟨rfl,λvs h=>by simp only[zfx,js]at h⊢;exact⟨h.1,λi p v h1=>by simp at h1⟩⟩
  |cons _ _=>simp[zav]at hp
 |h::hs,xs,r,pre,post,hp,hds,hg=>by
  simp only[zav]at hp;split at hp<;>try (cases hp;done)
  rename_i q0 hq0;split at hp<;>try (cases hp;done)
  rename_i hnd;obtain⟨q,y,hx,hy,rfl⟩:=Zk hp;simp only[wa3]at hds hg;have k1:=z19 hT ds h _ q pre (y.1++post) hx (by rw[hds];simp) (λm hm=>hg m (by simp[hm]));have k2:=zpb hT ds hs q0.2 y (pre++q.1) post hy (by rw[hds];simp) (λm hm=>hg m (by simp[hm]));have el:(pre++q.1).length=pre.length+zii h:=by simp[k1.1]
  rw[el]at k2;refine⟨by simp[wa3,zar,k1.1,k2.1],λvs hv=>?_⟩;obtain⟨s1,s2⟩:=Js _ _ _ _ hq0;rw[<- s1]at hv;obtain⟨v1,v2⟩:=RpL.split hv;simp only[zfx,js];have e:=Ya hnd;have r1:RpL Z H' V' w (unT ds h pre.length).den.cells (vs.take (js q0.1).length):=by
   by_cases hdd:h=.dead
   ·subst hdd;simp only[unT,TS.den,PV.cells];have hl:=v1.1;rw[s2]at hl;simp only[je0]at hl;rw[s2];simp only[je0];refine⟨by simpa using hl,λi p v h3 h4=>?_⟩;cases i with
    |zero=>simp at h3;subst h3;exact .unk v
    |succ i=>simp at h3
   ·by_cases hag:Qx (zam (zsb h) q0.1)=zsb h
    ·rw[<- e]at v1;rw[<- e];exact z9u k1.2 (by rw[hag,jb6 (post:=y.1++post) hx (by rw[hds];simp) hdd]) v1
    ·exfalso;cases hb:zsb h
     ·rw[hb]at hag hx hnd;have h1:Qx (zam false q0.1)=true:=by cases h5:Qx (zam false q0.1);exact absurd h5 hag;rfl
      unfold zam at h1;simp only at h1;split at h1
      ·split at h1
       ·rename_i h6;rw[h6]at h1;cases h1
       ·split at h1
        ·split at h1
         ·rename_i h6;rw[h6]at h1;cases h1
         ·simp[Qx]at h1
        ·simp[Qx]at h1
      ·simp[Qx]at h1
     ·rw[hb]at hag;apply hag;unfold zam;simp only;split
      ·split
       ·assumption
       ·rfl
      ·rfl
  have:=RpL.append r1 (k2.2 _ v2);rwa [wfh]at this
end
end
theorem zaa:∀t:Ty,t.eqB t=true
 |.int k=>by cases k<;>rfl
 |.bool=>rfl
 |.str=>rfl
 |.sl t=>by simp only[Ty.eqB];exact zaa t
 |.ref t=>by simp only[Ty.eqB];exact zaa t
 |.arr n t=>by simp only[Ty.eqB,zaa t,wg8,Bool.and_self]
 |.nil=>rfl
 |.cons a r=>by simp only[Ty.eqB,zaa a,zaa r,Bool.and_self]
 |.st r=>by simp only[Ty.eqB];exact zaa r
 |.tup r=>by simp only[Ty.eqB];exact zaa r
theorem z0v(ds:List Dyn):∀(hs:List HS)(j:Nat),(zfx ds hs j).length=hs.length
 |[],j=>by simp only[zfx,wgp]
 |h::hs,j=>by simp only[zfx,we2,z0v ds hs]
theorem wbn{Z Z':ZM}{H H':PHeap}{V V':Nat->Value}{w w':World}{cs:List PV}{vs:List Value}(h:RpL Z H V w cs vs)(hm:∀c∈cs,∀v,Rp Z H V w c v->Rp Z' H' V' w' c v):RpL Z' H' V' w' cs vs:=⟨h.1,λi p v h1 h2=>hm p (wd7 h1) v (h.2 i p v h1 h2)⟩
def MV.eqB:MV->MV->Bool
 |.id i v,.id j u=>Nat.beq i j && Nat.beq v u
 |.nil,.nil=>true
 |_,_=>false
theorem wdn{a b:MV}(h:a.eqB b=true):a=b:=by
 cases a<;>cases b<;>simp only[MV.eqB]at h<;>try (cases h;done)
 ·simp only[wd8]at h;rw[wd9 h.1,wd9 h.2]
 ·rfl
def Z9:List (Nat×MV)->Nat->Option MV
 |[],_=>none
 |m::r,X=>match Nat.beq m.1 X with
  |true=>some m.2
  |false=>Z9 r X
theorem zc2{a c:List (Nat×MV)}{X:Nat}{m:MV}(h:Z9 a X=some m):Z9 (a++c) X=some m:=by
 induction a with
 |nil=>simp[Z9]at h
 |cons x a ih=>
  simp only[Z9,wha]at h⊢;cases hb:Nat.beq x.1 X<;>rw[hb]at h<;>simp only at h⊢
  ·exact ih h
  ·exact h
theorem qz{a b:Nat}(h:Nat.beq a b=true):a=b:=wd9 h
def ze2(t:Ty):List TS->Option (List t.D)
 |[]=>some []
 |x::xs=>match toT t x with
  |none=>none
  |some a=>match ze2 t xs with
   |none=>none
   |some l=>some (a::l)
def zy2:HB->BD->Option PR
 |.row tid t,.row tid' t' l=>match Nat.beq tid tid' with
  |true=>match Dyn.as ⟨.sl t',l⟩ (.sl t)with
   |some x=>some ([⟨.sl t,x⟩],[])
   |none=>none
  |false=>none
 |.row tid t,.rowx tid' k xs=>match Nat.beq tid tid' && Nat.beq k (wid t)with
  |true=>match ze2 t xs with
   |some x=>some ([⟨.sl t,x⟩],[])
   |none=>none
  |false=>none
 |.rowx tid k hs,.rowx tid' k' xs=>match Nat.beq tid tid' && Nat.beq k k' && Nat.beq hs.length xs.length with
  |true=>zav hs xs
  |false=>none
 |.box tid hs,.box tid' xs=>match Nat.beq tid tid' with
  |true=>zav hs xs
  |false=>none
 |.obj k,.obj k' x=>match k.eqB k' with
  |true=>match Dyn.as ⟨k'.ty,x⟩ k.ty with
   |some y=>some ([⟨k.ty,y⟩],[])
   |none=>none
  |false=>none
 |_,_=>none
def jc5:HB->Nat
 |.row _ _=>1
 |.rowx _ _ hs=>zar hs
 |.box _ hs=>zar hs
 |.obj _=>1
def unB(ds:List Dyn):HB->Nat->BD
 |.row tid t,j=>match (nth ds j).as (.sl t)with
  |some l => .row tid t l
  |none => .row tid t []
 |.rowx tid k hs,j => .rowx tid k (zfx ds hs j)
 |.box tid hs,j => .box tid (zfx ds hs j)
 |.obj k,j=>match (nth ds j).as k.ty with
  |some x => .obj k x
  |none => .obj k k.dflt
def zqx(E:EF):List (Nat×HS)->Option PR
 |[]=>some jf0
 |h::hs=>z6x (Jl h.2 (E h.1)) (zqx E hs)
def zdw:List (Nat×HS)->Nat
 |[]=>0
 |h::hs=>zii h.2+zdw hs
def z52(ds:List Dyn):List (Nat×HS)->Nat->Nat->TS
 |[],_,_ => .dead
 |h::hs,j,i=>match Nat.beq i h.1 with
  |true=>unT ds h.2 j
  |false=>z52 ds hs (j+zii h.2) i
def zmg(G:EG):List (Nat×HB)->List (Nat×MV)->Option PR
 |[],_=>some jf0
 |e::r,mp=>match Z9 mp e.1 with
  |some (.id i ver)=>match Nat.beq (G i).ver ver with
   |true=>match (G i).b with
    |some bd=>match zy2 e.2 bd with
     |some x=>match zmg G r (mp++x.2)with
      |some y=>some (wa3 x y)
      |none=>none
     |none=>none
    |none=>none
   |false=>none
  |some .nil=>match e.2 with
   |.row tid t=>match zmg G r mp with
    |some y=>some (⟨.sl t,[]⟩::y.1,y.2)
    |none=>none
   |_=>none
  |none=>none
def zgn(ds:List Dyn):List (Nat×HB)->Nat->Nat->Option BD
 |[],_,_=>none
 |e::r,j,X=>match Nat.beq e.1 X with
  |true=>some (unB ds e.2 j)
  |false=>zgn ds r (j+jc5 e.2) X
def unE(h:LH)(ds:List Dyn):EF:=z52 ds h.slots 0
def unG(h:LH)(ds:List Dyn):EG:=λX=>match zgn ds h.heap (zdw h.slots) X with
 |some bd=>⟨1,some bd⟩
 |none=>⟨0,none⟩
def inH(L:List (Nat×HB))(X:Nat):Bool:=L.any λe=>Nat.beq e.1 X
def jd3(L:List (Nat×HB))(full:List (Nat×MV)):List (Nat×MV)->Bool
 |[]=>true
 |m::r=>(match Z9 full m.1 with
  |some x=>x.eqB m.2
  |none=>false) && inH L m.1 && jd3 L full r
def zub(mp:List (Nat×MV)):List (Nat×HB)->List Nat->Bool
 |[],_=>true
 |e::r,seen=>match Z9 mp e.1 with
  |some (.id i _)=>!(seen.any (Nat.beq i)) && zub mp r (i::seen)
  |_=>zub mp r seen
def mp0:Nat->List (Nat×MV)
 |0=>[]
 |b+1=>(b,.id b 1)::mp0 b
def jav(b:Nat)(h:LH)(E:EF)(G:EG):Option PR:=match zqx E h.slots with
 |none=>none
 |some x=>match zmg G h.heap (mp0 b++x.2)with
  |none=>none
  |some y=>match mp0 b++x.2++y.2 with
   |full=>match jd3 h.heap full full && zub full h.heap []with
    |true=>some (x.1++y.1,full)
    |false=>none
theorem zut{L:List (Nat×HB)}{full:List (Nat×MV)}:∀{l:List (Nat×MV)},jd3 L full l=true->∀m∈l,Z9 full m.1=some m.2/\inH L m.1=true
 |[],_,m,hm=>by cases hm
 |e::r,h,m,hm=>by
  simp only[jd3,wd8]at h;rcases wep.1 hm with rfl|hm
  ·cases hl:Z9 full m.1 with
   |none=>rw[hl]at h;simp at h
   |some x=>rw[hl]at h;exact⟨by rw[wdn h.1.1],h.1.2⟩
  ·exact zut h.2 m hm
theorem jex{b i:Nat}(h:i<b):(i,MV.id i 1)∈mp0 b:=by
 induction b with
 |zero=>omega
 |succ b ih=>
  simp only[mp0,wep];by_cases e:i=b
  ·subst e;exact .inl rfl
  ·exact .inr (ih (by omega))
theorem zir{mp:List (Nat×MV)}:∀{L:List (Nat×HB)}{seen:List Nat},zub mp L seen=true ->
  (∀e∈L,∀i v,Z9 mp e.1=some (.id i v)->i∉seen)/\∀e∈L,∀f∈L,∀i v u,Z9 mp e.1=some (.id i v)->Z9 mp f.1=some (.id i u)->e.1=f.1
 |[],seen,h=>⟨λe he=>(by cases he),λe he=>(by cases he)⟩
 |a::L,seen,h=>by
  simp only[zub]at h;have hne:∀{i:Nat}{l:List Nat},(!(l.any (Nat.beq i)))=true->i∉l:=λ{i l}h hm=>by
   simp only[wg5,List.any_eq_false]at h;exact h i hm (wg8 i)
  have other:∀{seen':List Nat},zub mp L seen'=true->(∀i v,Z9 mp a.1≠some (.id i v))->(∀e∈a::L,∀i v,Z9 mp e.1=some (.id i v)->i∉seen')/\∀e∈a::L,∀f∈a::L,∀i v u,Z9 mp e.1=some (.id i v)->Z9 mp f.1=some (.id i u)->e.1=f.1:=λ{seen'}h hn=>by
   obtain⟨h1,h2⟩:=zir (L:=L) h;refine⟨λe he i v hi=>?_,λe he f hf i v u hi hj=>?_⟩
   ·rcases wep.1 he with rfl|he
    ·exact absurd hi (hn i v)
    ·exact h1 e he i v hi
   ·rcases wep.1 he with rfl|he
    ·exact absurd hi (hn i v)
    ·rcases wep.1 hf with rfl|hf
     ·exact absurd hj (hn i u)
     ·exact h2 e he f hf i v u hi hj
  cases hl:Z9 mp a.1 with
  |none=>rw[hl]at h;exact other h (λi v e=>by rw[hl]at e;cases e)
  |some m=>
   rw[hl]at h;cases m with
   |nil=>exact other h (λi v e=>by rw[hl]at e;cases e)
   |id i0 v0=>
    simp only[wd8]at h;obtain⟨hs,h⟩:=h;obtain⟨h1,h2⟩:=zir (L:=L) h;refine⟨λe he i v hi=>?_,λe he f hf i v u hi hj=>?_⟩
    ·rcases wep.1 he with he'|he'
     ·rw[he',hl]at hi;cases hi;exact hne hs
     ·exact λhm=>h1 e he' i v hi (by simp[hm])
    ·rcases wep.1 he with he'|he'
     ·rcases wep.1 hf with hf'|hf'
      ·rw[he',hf']
      ·rw[he',hl]at hi;cases hi;exact absurd (List.mem_cons_self ..) (h1 f hf' _ u hj)
     ·rcases wep.1 hf with hf'|hf'
      ·rw[hf',hl]at hj;cases hj;exact absurd (List.mem_cons_self ..) (h1 e he' _ v hi)
      ·exact h2 e he' f hf' i v u hi hj
mutual
theorem zl7:∀(h:HS)(s:TS)(r:PR),Jl h s=some r->r.1.length=zii h
 |.v t,s,r,hp=>by
  simp only[Jl]at hp;split at hp<;>cases hp;rfl
 |.rd t,s,r,hp=>by
  simp only[Jl]at hp;split at hp<;>try (cases hp;done)
  split at hp<;>cases hp;rfl
 |.own X,s,r,hp=>by
  simp only[Jl]at hp;split at hp<;>try (cases hp;done)
  ·cases hp;rfl
  ·split at hp<;>cases hp;rfl
 |.pt X off,s,r,hp=>by
  simp only[Jl]at hp;split at hp<;>try (cases hp;done)
  split at hp<;>cases hp;rfl
 |.dead,s,r,hp=>by simp only[Jl]at hp;cases hp;rfl
 |.ci k z,s,r,hp=>by
  simp only[Jl]at hp;split at hp<;>try (cases hp;done)
  split at hp<;>cases hp;rfl
 |.cb b,s,r,hp=>by
  simp only[Jl]at hp;split at hp<;>try (cases hp;done)
  split at hp<;>cases hp;rfl
 |.fn f a b,s,r,hp=>by
  simp only[Jl]at hp;split at hp<;>try (cases hp;done)
  split at hp<;>try (cases hp;done)
  obtain⟨x,y,hx,hy,rfl⟩:=Zk hp;simp[wa3,zii,zez a _ x hx,zez b _ y hy]
 |.agg hs,s,r,hp=>by
  simp only[Jl]at hp;split at hp<;>try (cases hp;done)
  simp only[zii];exact zer hs _ r hp
 |.tup hs,s,r,hp=>by
  simp only[Jl]at hp;split at hp<;>try (cases hp;done)
  simp only[zii];exact zez hs _ r hp
theorem zez:∀(hs:List HS)(xs:List TS)(r:PR),Y8 hs xs=some r->r.1.length=zar hs
 |[],xs,r,hp=>by
  cases xs with
  |nil=>simp only[Y8]at hp;cases hp;rfl
  |cons _ _=>simp[Y8]at hp
 |h::hs,xs,r,hp=>by
  cases xs with
  |nil=>simp[Y8]at hp
  |cons x xs=>
   simp only[Y8]at hp;obtain⟨q,y,hx,hy,rfl⟩:=Zk hp;simp[wa3,zar,zl7 h x q hx,zez hs xs y hy]
theorem zer:∀(hs:List HS)(xs:List TS)(r:PR),zav hs xs=some r->r.1.length=zar hs
 |[],xs,r,hp=>by
  cases xs with
  |nil=>simp only[zav]at hp;cases hp;rfl
  |cons _ _=>simp[zav]at hp
 |h::hs,xs,r,hp=>by
  simp only[zav]at hp;split at hp<;>try (cases hp;done)
  split at hp<;>try (cases hp;done)
  obtain⟨q,y,hx,hy,rfl⟩:=Zk hp;simp[wa3,zar,zl7 h _ q hx,zer hs _ y hy]
end
theorem z68{hb:HB}{bd:BD}{r:PR}(h:zy2 hb bd=some r):r.1.length=jc5 hb:=by
 unfold zy2 at h;split at h<;>try (cases h;done)
 ·split at h<;>try (cases h;done)
  split at h<;>cases h;rfl
 ·split at h<;>try (cases h;done)
  split at h<;>cases h;rfl
 ·split at h<;>try (cases h;done)
  exact zer _ _ _ h
 ·split at h<;>try (cases h;done)
  exact zer _ _ _ h
 ·split at h<;>try (cases h;done)
  split at h<;>cases h;rfl
def jan(G:EG)(full:List (Nat×MV))(ds:List Dyn)(X:Nat)(hb:HB)(nb:BD):Prop:=
 (∃i ver bd x pre post,Z9 full X=some (.id i ver)/\(G i).ver=ver/\(G i).b=some bd/\zy2 hb bd=some x/\ds=pre++x.1++post/\(∀m∈x.2,m∈full)/\nb=unB ds hb pre.length) \/
 (Z9 full X=some .nil/\∃tid t,hb=.row tid t/\nb=.row tid t [])
theorem zud{G:EG}{full:List (Nat×MV)}{ds:List Dyn}:∀(L:List (Nat×HB))(mp:List (Nat×MV))(r:PR)(rest:List (Nat×MV))(pre post:List Dyn),zmg G L mp=some r->full=mp++r.2++rest->ds=pre++r.1++post ->
  (∀X nb,zgn ds L pre.length X=some nb->∃hb,(X,hb)∈L/\jan G full ds X hb nb)/\∀X,inH L X=true->∃nb,zgn ds L pre.length X=some nb
 |[],mp,r,rest,pre,post,h,hf,hd=>⟨λX nb hn=>by simp[zgn]at hn,λX hX=>by simp[inH]at hX⟩
 |e::L,mp,r,rest,pre,post,h,hf,hd=>by
  obtain⟨Y,hb⟩:=e;simp only[zmg]at h;have step:∀{x:PR}{y:PR}{mp':List (Nat×MV)}{rest':List (Nat×MV)},x.1.length=jc5 hb->zmg G L mp'=some y->full=mp'++y.2++rest'->ds=pre++x.1++(y.1++post)->jan G full ds Y hb (unB ds hb pre.length) ->
    (∀X nb,zgn ds ((Y,hb)::L) pre.length X=some nb->∃hb',(X,hb')∈(Y,hb)::L/\jan G full ds X hb' nb)/\∀X,inH ((Y,hb)::L) X=true->∃nb,zgn ds ((Y,hb)::L) pre.length X=some nb:=by
   intro x y mp' rest' hxl hy hf' hd' hent;have el:(pre++x.1).length=pre.length+jc5 hb:=by simp[hxl]
   obtain⟨k1,k2⟩:=zud (ds:=ds) L mp' y rest' (pre++x.1) post hy hf' (by rw[hd'];simp);rw[el]at k1 k2;refine⟨λX nb hn=>?_,λX hX=>?_⟩
   ·simp only[zgn]at hn;split at hn
    ·rename_i hb2;cases hn;have:=qz hb2;subst this;exact⟨hb,List.mem_cons_self ..,hent⟩
    ·obtain⟨hb',m1,m2⟩:=k1 X nb hn;exact⟨hb',wg6 _ m1,m2⟩
   ·simp only[zgn];simp only[inH,List.any_cons,wft]at hX;split
    ·exact⟨_,rfl⟩
    ·rename_i hb2;rcases hX with hX|hX
     ·rw[hb2]at hX;cases hX
     ·exact k2 X hX
  split at h<;>try (cases h;done)
  ·rename_i i ver hl;split at h<;>try (cases h;done)
   rename_i hv;split at h<;>try (cases h;done)
   rename_i bd hG;split at h<;>try (cases h;done)
   rename_i x hx;split at h<;>try (cases h;done)
   rename_i y hy;cases h;simp only[wa3]at hf hd;refine step (rest':=rest) (z68 hx) hy (by rw[hf];simp) (by rw[hd];simp) (.inl ⟨i,ver,bd,x,pre,y.1++post,?_,qz hv,hG,hx,by rw[hd];simp,λm hm=>by rw[hf];simp[hm],rfl⟩);rw[hf];exact zc2 (zc2 hl)
  ·rename_i hl;split at h<;>try (cases h;done)
   rename_i tid t;split at h<;>try (cases h;done)
   rename_i y hy;cases h;refine step (rest':=rest) (x:=([⟨.sl t,[]⟩],[])) rfl hy (by rw[hf]) (by rw[hd];simp) (.inr ⟨by rw[hf];exact zc2 (zc2 hl),tid,t,rfl,?_⟩);simp only[unB];rw[ze5 (a:=pre) (c:=y.1++post) (d:=⟨.sl t,[]⟩) (by rw[hd];simp)];simp only[Dyn.as,z4t];split
   ·rename_i h6;split at h6
    ·cases h6;rfl
    ·cases h6
   ·rfl
theorem zlb{E:EF}{ds:List Dyn}:∀(L:List (Nat×HS))(r:PR)(pre post:List Dyn),zqx E L=some r->ds=pre++r.1++post->r.1.length=zdw L/\∀i,z52 ds L pre.length i=.dead\/∃s q pre' post',Jl s (E i)=some q/\ds=pre'++q.1++post'/\(∀m∈q.2,m∈r.2)/\z52 ds L pre.length i=unT ds s pre'.length
 |[],r,pre,post,h,hd=>by simp only[zqx]at h;cases h;exact⟨rfl,λi=> .inl (by simp only[z52])⟩
 |e::L,r,pre,post,h,hd=>by
  simp only[zqx]at h;obtain⟨q,y,hx,hy,rfl⟩:=Zk h;simp only[wa3]at hd;have hl:=zl7 _ _ _ hx;have el:(pre++q.1).length=pre.length+zii e.2:=by simp[hl]
  obtain⟨k1,k2⟩:=zlb (ds:=ds) L y (pre++q.1) post hy (by rw[hd];simp);rw[el]at k2;refine⟨by simp[wa3,zdw,hl,k1],λi=>?_⟩;simp only[z52];split
  ·rename_i hb;have:=qz hb;subst this;exact .inr ⟨e.2,q,pre,y.1++post,hx,by rw[hd];simp,λm hm=>by simp[wa3,hm],rfl⟩
  ·rcases k2 i with h1|⟨s,q',pre',post',h1,h2,h3,h4⟩
   ·exact .inl h1
   ·exact .inr ⟨s,q',pre',post',h1,h2,λm hm=>by simp[wa3,h3 m hm],h4⟩
def V2(mp:List (Nat×MV))(V:Nat->Value):Nat->Value:=λY=>if Y % 2=0 then(match Z9 mp (Y / 2)with
 |some (.id i _)=>V (2*i)
 |some .nil => .slice none 0 0
 |none=>V Y)else V Y
def RestOk(b:Nat)(R:PHeap):Prop:=∀i bd,(R i).body=some bd->∀c∈zh0 bd,IdOk b c
def GhOk(b:Nat)(W:Env):Prop:=∀i,IdOk b (W.G i)
theorem ze8{t:Ty}:∀{xs:List TS}{l:List t.D},ze2 t xs=some l->RefL (js xs) (l.flatMap (encC t))/\l.length=xs.length
 |[],l,h=>by simp only[ze2]at h;cases h;simp only[js,whc];exact⟨RefL.nil,rfl⟩
 |x::xs,l,h=>by
  simp only[ze2]at h;split at h<;>try (cases h;done)
  rename_i a ha;split at h<;>try (cases h;done)
  rename_i l' hl;cases h;obtain⟨h1,h2⟩:=ze8 hl;refine⟨?_,by simp[h2]⟩;simp only[js,wex];exact RefL.append (zaz t x a ha).1 h1
section
variable{P:Program}{W:Env}{n b:Nat}{E:EF}{G:EG}{R:PHeap}{h:LH}{r:PR}
theorem jb9(hp:jav b h E G=some r)(hg:GhOk b W)(hR:RestOk b R){V:Nat->Value}{a:Act}{w:World}(hr:Rel P W n (zj E) (qf G R) V a w):∃V',Rel P W n (zj (unE h r.1)) (qf (unG h r.1) R) V' a w:=by
 unfold jav at hp;split at hp<;>try (cases hp;done)
 rename_i x hx;split at hp<;>try (cases hp;done)
 rename_i y hy;simp only at hp;split at hp<;>try (cases hp;done)
 rename_i hchk;cases hp;simp only[wd8]at hchk;obtain⟨hok,hinj⟩:=hchk;generalize hfull:mp0 b++x.2++y.2=full at *;have hspec:=zut hok;have hinj:=(zir hinj).2;generalize hds:x.1++y.1=ds at *;have hxl:x.1.length=zdw h.slots:=(zlb (ds:=x.1) h.slots x [] [] hx (by simp)).1;obtain⟨hent,hin⟩:=zud (G:=G) (full:=full) (ds:=ds) h.heap (mp0 b++x.2) y [] x.1 [] hy (by rw[<- hfull];simp) (by rw[<- hds];simp);rw[hxl]at hent hin;have hG':∀X nb,zgn ds h.heap (zdw h.slots) X=some nb->unG h ds X=⟨1,some nb⟩:=λX nb e=>by unfold unG;rw[e]
 have hGn:∀X,zgn ds h.heap (zdw h.slots) X=none->unG h ds X=⟨0,none⟩:=λX e=>by unfold unG;rw[e]
 -- blocks of the new heap
 have hlive:∀Y,(qf (unG h ds) R Y).body.isSome=true->V2 full V Y=.slice none 0 0\/∃Y0,(qf G R Y0).body.isSome=true/\V2 full V Y=V Y0:=by
  intro Y hY;rcases wf8 Y with e|e
  ·obtain⟨X,rfl⟩:∃X,Y=2*X:=⟨Y / 2,by omega⟩
   rw[qe]at hY;cases hu:zgn ds h.heap (zdw h.slots) X with
   |none=>rw[hGn X hu]at hY;simp[qj]at hY
   |some nb=>
    obtain⟨hb,hmem,he⟩:=hent X nb hu;rcases he with⟨i,ver,bd,x',pre,post,hl,hv,hGi,_⟩|⟨hl,_⟩
    ·refine .inr ⟨2*i,by rw[qe];simp[qj,hGi],?_⟩;unfold V2;rw[if_pos (by omega),show 2*X / 2=X by omega,hl]
    ·refine .inl ?_;unfold V2;rw[if_pos (by omega),show 2*X / 2=X by omega,hl]
  ·obtain⟨i,rfl⟩:∃i,Y=2*i+1:=⟨Y / 2,by omega⟩
   rw[zg]at hY;refine .inr ⟨2*i+1,by rw[zg];exact hY,?_⟩;unfold V2;rw[if_neg (by omega)]
 have hz:∀c,c<w.heap.size->¬PZ W.Z (qf G R) V c->¬PZ W.Z (qf (unG h ds) R) (V2 full V) c:=by
  rintro c hc h1 (h2|⟨Y,h2,h3⟩)
  ·exact h1 (.inl h2)
  ·rcases hlive Y h2 with e|⟨Y0,h4,e⟩
   ·rw[e]at h3;cases h3
   ·exact h1 (.inr ⟨Y0,h4,by rw[<- e];exact h3⟩)
 have hT:∀p v,NoP p->Rp W.Z (qf G R) V w p v->Rp W.Z (qf (unG h ds) R) (V2 full V) w p v:=λp v hn hv=>Rp.noP hv hn hz;have hprot:∀i,i<b->(G i).ver=1/\(G i).b.isSome=true/\Z9 full i=some (.id i 1)/\∃nb,unG h ds i=⟨1,some nb⟩:=by
  intro i hi;obtain⟨h1,h2⟩:=hspec (i,.id i 1) (by rw[<- hfull];simp[jex hi]);obtain⟨nb,hu⟩:=hin i h2;obtain⟨hb,hmem,he⟩:=hent i nb hu;rcases he with⟨i',ver,bd,x',pre,post,hl,hv,hGi,_⟩|⟨hl,_⟩
  ·rw[h1]at hl;cases hl;exact⟨hv,by rw[hGi];rfl,h1,nb,hG' i nb hu⟩
  ·rw[h1]at hl;cases hl
 have hkeep:∀i,(i % 2=1\/i<2*b)->(qf (unG h ds) R i).ver=(qf G R i).ver/\((qf (unG h ds) R i).body.isSome=true->(qf G R i).body.isSome=true/\V2 full V i=V i):=by
  intro i hi;rcases wf8 i with e|e
  ·obtain⟨X,rfl⟩:∃X,i=2*X:=⟨i / 2,by omega⟩
   obtain⟨h1,h2,h3,nb,h4⟩:=hprot X (by omega);rw[qe,qe,h4];refine⟨h1.symm,λ_=>⟨by cases hb:(G X).b with|none=>rw[hb]at h2;cases h2|some bd=>simp[qj,hb],?_⟩⟩;unfold V2;rw[if_pos (by omega),show 2*X / 2=X by omega,h3]
  ·obtain⟨X,rfl⟩:∃X,i=2*X+1:=⟨i / 2,by omega⟩
   rw[zg,zg];refine⟨rfl,λh1=>⟨h1,?_⟩⟩;unfold V2;rw[if_neg (by omega)]
 have hgood:∀m∈full,jcq W.Z (qf G R) (qf (unG h ds) R) V (V2 full V) w m.1 m.2:=by
  rintro⟨X,m⟩ hm;obtain⟨h1,h2⟩:=hspec _ hm;simp only at h1 h2⊢;obtain⟨nb,hu⟩:=hin X h2;obtain⟨hb,hmem,he⟩:=hent X nb hu;have hver:(qf (unG h ds) R (2*X)).ver=1:=by rw[qe,hG' X nb hu];rfl
  have hV:V2 full V (2*X)=match Z9 full X with
   |some (.id i _)=>V (2*i)
   |some .nil => .slice none 0 0
   |none=>V (2*X):=by unfold V2;rw[if_pos (by omega),show 2*X / 2=X by omega]
  rcases he with⟨i,ver,bd,x',pre,post,hl,hv,hGi,_⟩|⟨hl,_⟩
  ·rw[h1]at hl;cases hl;rw[h1]at hV;have hb2:(qf G R (2*i)).body.isSome=true:=by rw[qe];simp[qj,hGi]
   have hv2:(qf G R (2*i)).ver=ver:=by rw[qe];exact hv
   refine⟨λv hv'=>?_,λoff v hv'=>?_⟩
   ·cases hv' with
    |ps _ _ _ k1 k2=>exact .ps _ _ _ (by rw[hver];exact weh _) λ_ _=>by rw[hV];exact k2 hb2 hv2
   ·cases hv' with
    |pp _ _ _ _ k1 k2=>exact .pp _ _ _ _ (by rw[hver];exact weh _) λ_ _=>by rw[hV];exact k2 hb2 hv2
  ·rw[h1]at hl;cases hl;rw[h1]at hV;exact .ps _ _ _ (by rw[hver];exact weh _) λ_ _=>by rw[hV]
 have hrest:∀c v,IdOk b c->Rp W.Z (qf G R) V w c v->Rp W.Z (qf (unG h ds) R) (V2 full V) w c v:=λc v hi hv=>Rp.keep hv hi hz hkeep;have hboxes:∀X nb,zgn ds h.heap (zdw h.slots) X=some nb->(∃i bd,(G i).b=some bd/\V2 full V (2*X)=V (2*i) /\
   ((∃tid k m cs cs',bd.den=.row tid k m cs/\nb.den=.row tid k m cs'/\∀vs,RpL W.Z (qf G R) V w cs vs->RpL W.Z (qf (unG h ds) R) (V2 full V) w cs' vs)\/(∃tid cs cs',bd.den=.box tid cs/\nb.den=.box tid cs'/\∀vs,RpL W.Z (qf G R) V w cs vs->RpL W.Z (qf (unG h ds) R) (V2 full V) w cs' vs)\/(∃p φ,bd.den=.raw p [] φ/\nb.den=.raw p [] φ))) \/
   (V2 full V (2*X)=.slice none 0 0/\∃tid k,nb.den=.row tid k 0 []):=by
  intro X nb hu;obtain⟨hb,hmem,he⟩:=hent X nb hu;have hV:V2 full V (2*X)=match Z9 full X with
   |some (.id i _)=>V (2*i)
   |some .nil => .slice none 0 0
   |none=>V (2*X):=by unfold V2;rw[if_pos (by omega),show 2*X / 2=X by omega]
  rcases he with⟨i,ver,bd,x',pre,post,hl,hv,hGi,hpk,hd,hmm,rfl⟩|⟨hl,tid,t,rfl,rfl⟩
  ·refine .inl ⟨i,bd,hGi,by rw[hV,hl],?_⟩;have told:∀{t:Ty}{l:List t.D}{cs vs},RefL cs (l.flatMap (encC t))->RpL W.Z (qf G R) V w cs vs->RpL W.Z (qf (unG h ds) R) (V2 full V) w (l.flatMap (encC t)) vs:=λ{t l cs vs}hc hv=>by
    have:=hc.rpL hv;refine wbn this λc hc v hv=>hT c v ?_ hv;obtain⟨z,_,hz⟩:=wfe.1 hc;exact yi t z c hz
   unfold zy2 at hpk;split at hpk<;>try (cases hpk;done)
   ·rename_i tid t tid' t' l;split at hpk<;>try (cases hpk;done)
    rename_i hb1;have:=qz hb1;subst this;split at hpk<;>cases hpk;rename_i x2 hx2;have:=wai hx2;injection this with e1 e2
    injection e1 with e1
    subst e1;have e2:=eq_of_heq e2;subst e2;have e3:unB ds (.row tid t') pre.length=.row tid t' l:=by
     simp only[unB];rw[ze5 (a:=pre) (c:=post) (d:=⟨.sl t',l⟩) (by rw[hd];simp),hx2]
    rw[e3];exact .inl ⟨tid,wid t',l.length,_,_,rfl,rfl,λvs hv=>told (RefL.refl _) hv⟩
   ·rename_i tid t tid' k xs;split at hpk<;>try (cases hpk;done)
    rename_i hb1;simp only[wd8]at hb1;have e1:=qz hb1.1;have e2:=qz hb1.2;subst e1;subst e2;split at hpk<;>cases hpk;rename_i l hl2;obtain⟨r1,r2⟩:=ze8 hl2;have e3:unB ds (.row tid t) pre.length=.row tid t l:=by
     simp only[unB];rw[ze5 (a:=pre) (c:=post) (d:=⟨.sl t,l⟩) (by rw[hd];simp)];have:(Dyn.mk (.sl t) l).as (.sl t)=some l:=by
      simp only[Dyn.as,z4t];split
      ·rfl
      ·rename_i h9;exfalso;have:∀t:Ty,t.eqB t=true:=λt=>zaa t;rw[this]at h9;cases h9
     rw[this]
    rw[e3];exact .inl ⟨tid,wid t,xs.length,_,_,rfl,by simp only[BD.den,r2],λvs hv=>told r1 hv⟩
   ·rename_i tid k hs tid' k' xs;split at hpk<;>try (cases hpk;done)
    rename_i hb1;simp only[wd8]at hb1;have e1:=qz hb1.1.1;have e2:=qz hb1.1.2;have e3:=qz hb1.2;subst e1;subst e2;have k1:=zpb hT ds hs xs x' pre post hpk hd λm hm=>hgood m (hmm m hm);refine .inl ⟨tid,k,xs.length,_,js (zfx ds hs pre.length),rfl,?_,λvs hv=>k1.2 vs hv⟩;simp only[unB,BD.den,z0v,e3]
   ·rename_i tid hs tid' xs;split at hpk<;>try (cases hpk;done)
    rename_i hb1;have e1:=qz hb1;subst e1;have k1:=zpb hT ds hs xs x' pre post hpk hd λm hm=>hgood m (hmm m hm);exact .inr (.inl ⟨tid,_,js (zfx ds hs pre.length),rfl,rfl,λvs hv=>k1.2 vs hv⟩)
   ·rename_i k k' x;split at hpk<;>try (cases hpk;done)
    rename_i hb1;have:=wcd hb1;subst this;split at hpk<;>cases hpk;rename_i x2 hx2;have:=wai hx2;injection this with e1 e2
    subst e2;have e3:unB ds (.obj k) pre.length=.obj k x:=by
     simp only[unB];rw[ze5 (a:=pre) (c:=post) (d:=⟨k.ty,x⟩) (by rw[hd];simp),hx2]
    rw[e3];obtain⟨p,φ,e4⟩:=k.den_raw x;exact .inr (.inr ⟨p,φ,e4,e4⟩)
  ·refine .inr ⟨by rw[hV,hl],tid,wid t,rfl⟩
 refine⟨V2 full V,?_,hr.size,hr.defers,λt=>?_⟩
 ·have hh:=hr.heap;refine⟨hh.below,λY t k m cs hb=>?_,λY t cs hb=>?_,λY p cs φ hb=>?_,λi=>hrest _ _ (hg i) (hh.ghost i),λY Y' g h1 h2 h3 h4=>?_,hh.zlt,λY c h1 h2=>?_⟩
  ·rcases wf8 Y with e|e
   ·obtain⟨X,rfl⟩:∃X,Y=2*X:=⟨Y / 2,by omega⟩
    rw[qe]at hb;cases hu:zgn ds h.heap (zdw h.slots) X with
    |none=>rw[hGn X hu]at hb;simp[qj]at hb
    |some nb=>
     rw[hG' X nb hu]at hb;simp only[qj,wer,we6]at hb;rcases hboxes X nb hu with⟨i,bd,hGi,hV,⟨tid,k',m',cs1,cs2,e1,e2,e3⟩|⟨tid,cs1,cs2,e1,e2,e3⟩|⟨p2,φ2,e1,e2⟩⟩|⟨hV,tid,k',e2⟩
     ·rw[e2]at hb;cases hb;have hb0:(qf G R (2*i)).body=some (.row t k m cs1):=by rw[qe];simp[qj,hGi,e1]
      obtain⟨vals,ho,hc,h1⟩:=hh.row (2*i) t k m cs1 hb0;exact⟨vals,by rw[hV];exact ho,e3 vals hc,h1⟩
     ·rw[e2]at hb;cases hb
     ·rw[e2]at hb;cases hb
     ·rw[e2]at hb;cases hb;exact⟨[],by rw[hV];exact⟨by simp,.inl ⟨rfl,rfl⟩⟩,⟨rfl,λi p v h1=>by simp at h1⟩,λv hv=>by simp at hv⟩
   ·obtain⟨X,rfl⟩:∃X,Y=2*X+1:=⟨Y / 2,by omega⟩
    rw[zg]at hb;have hb0:(qf G R (2*X+1)).body=some (.row t k m cs):=by rw[zg];exact hb
    obtain⟨vals,ho,hc,h1⟩:=hh.row _ t k m cs hb0;refine⟨vals,?_,wbn hc λc hc v hv=>hrest c v (hR X _ hb c hc) hv,h1⟩;have:V2 full V (2*X+1)=V (2*X+1):=by unfold V2;rw[if_neg (by omega)]
    rw[this];exact ho
  ·rcases wf8 Y with e|e
   ·obtain⟨X,rfl⟩:∃X,Y=2*X:=⟨Y / 2,by omega⟩
    rw[qe]at hb;cases hu:zgn ds h.heap (zdw h.slots) X with
    |none=>rw[hGn X hu]at hb;simp[qj]at hb
    |some nb=>
     rw[hG' X nb hu]at hb;simp only[qj,wer,we6]at hb;rcases hboxes X nb hu with⟨i,bd,hGi,hV,⟨tid,k',m',cs1,cs2,e1,e2,e3⟩|⟨tid,cs1,cs2,e1,e2,e3⟩|⟨p2,φ2,e1,e2⟩⟩|⟨hV,tid,k',e2⟩
     ·rw[e2]at hb;cases hb
     ·rw[e2]at hb;cases hb;have hb0:(qf G R (2*i)).body=some (.box t cs1):=by rw[qe];simp[qj,hGi,e1]
      obtain⟨g,arr,he,hg1,hg2,hc,h1⟩:=hh.box (2*i) t cs1 hb0;exact⟨g,arr,by rw[hV];exact he,hg1,hg2,e3 _ hc,h1⟩
     ·rw[e2]at hb;cases hb
     ·rw[e2]at hb;cases hb
   ·obtain⟨X,rfl⟩:∃X,Y=2*X+1:=⟨Y / 2,by omega⟩
    rw[zg]at hb;have hb0:(qf G R (2*X+1)).body=some (.box t cs):=by rw[zg];exact hb
    obtain⟨g,arr,he,hg1,hg2,hc,h1⟩:=hh.box _ t cs hb0;refine⟨g,arr,?_,hg1,hg2,wbn hc λc hc v hv=>hrest c v (hR X _ hb c hc) hv,h1⟩;have:V2 full V (2*X+1)=V (2*X+1):=by unfold V2;rw[if_neg (by omega)]
    rw[this];exact he
  ·rcases wf8 Y with e|e
   ·obtain⟨X,rfl⟩:∃X,Y=2*X:=⟨Y / 2,by omega⟩
    rw[qe]at hb;cases hu:zgn ds h.heap (zdw h.slots) X with
    |none=>rw[hGn X hu]at hb;simp[qj]at hb
    |some nb=>
     rw[hG' X nb hu]at hb;simp only[qj,wer,we6]at hb;rcases hboxes X nb hu with⟨i,bd,hGi,hV,⟨tid,k',m',cs1,cs2,e1,e2,e3⟩|⟨tid,cs1,cs2,e1,e2,e3⟩|⟨p2,φ2,e1,e2⟩⟩|⟨hV,tid,k',e2⟩
     ·rw[e2]at hb;cases hb
     ·rw[e2]at hb;cases hb
     ·rw[e2]at hb;cases hb;have hb0:(qf G R (2*i)).body=some (.raw p [] φ):=by rw[qe];simp[qj,hGi,e1]
      obtain⟨g,o,vs,he,hg1,hg2,h1,hc⟩:=hh.map (2*i) p [] φ hb0;exact⟨g,o,vs,by rw[hV];exact he,hg1,hg2,h1,hc.1,λi p v h=>by simp at h⟩
     ·rw[e2]at hb;cases hb
   ·obtain⟨X,rfl⟩:∃X,Y=2*X+1:=⟨Y / 2,by omega⟩
    rw[zg]at hb;have hb0:(qf G R (2*X+1)).body=some (.raw p cs φ):=by rw[zg];exact hb
    obtain⟨g,o,vs,he,hg1,hg2,h1,hc⟩:=hh.map _ p cs φ hb0;refine⟨g,o,vs,?_,hg1,hg2,h1,wbn hc λc hc v hv=>hrest c v (hR X _ hb c hc) hv⟩;have:V2 full V (2*X+1)=V (2*X+1):=by unfold V2;rw[if_neg (by omega)]
    rw[this];exact he
  ·-- apart
   rcases hlive Y h1 with e|⟨Y0,k1,e⟩
   ·rw[e]at h3;cases h3
   ·rcases hlive Y' h2 with e'|⟨Y0',k1',e'⟩
    ·rw[e']at h4;cases h4
    ·have hsame:∀Z,(qf (unG h ds) R Z).body.isSome=true->qc (V2 full V Z)=some g->∃Z0,(qf G R Z0).body.isSome=true/\qc (V Z0)=some g/\((Z % 2=1/\Z0=Z)\/(Z % 2=0/\∃i ver hb,Z0=2*i/\Z9 full (Z / 2)=some (.id i ver)/\(Z / 2,hb)∈h.heap)):=by
      intro Z hZ hbk;rcases wf8 Z with e|e
      ·obtain⟨X,rfl⟩:∃X,Z=2*X:=⟨Z / 2,by omega⟩
       rw[qe]at hZ;cases hu:zgn ds h.heap (zdw h.slots) X with
       |none=>rw[hGn X hu]at hZ;simp[qj]at hZ
       |some nb=>
        obtain⟨hb,hmem,he⟩:=hent X nb hu;rcases he with⟨i,ver,bd,x',pre,post,hl,hv,hGi,_⟩|⟨hl,_⟩
        ·refine⟨2*i,by rw[qe];simp[qj,hGi],?_,.inr ⟨by omega,i,ver,hb,rfl,by rw[show 2*X / 2=X by omega];exact hl,by rw[show 2*X / 2=X by omega];exact hmem⟩⟩;unfold V2 at hbk;rw[if_pos (by omega),show 2*X / 2=X by omega,hl]at hbk;exact hbk
        ·unfold V2 at hbk;rw[if_pos (by omega),show 2*X / 2=X by omega,hl]at hbk;cases hbk
      ·refine⟨Z,?_,?_,.inl ⟨e,rfl⟩⟩
       ·obtain⟨i,rfl⟩:∃i,Z=2*i+1:=⟨Z / 2,by omega⟩
        rw[zg]at hZ⊢;exact hZ
       ·unfold V2 at hbk;rw[if_neg (by omega)]at hbk;exact hbk
     obtain⟨Z0,a1,a2,a3⟩:=hsame Y h1 h3;obtain⟨Z0',b1,b2,b3⟩:=hsame Y' h2 h4;have:=hh.apart Z0 Z0' g a1 b1 a2 b2;subst this;rcases a3 with⟨o1,rfl⟩|⟨o1,i,ver,hb,rfl,l1,m1⟩
     ·rcases b3 with⟨o2,rfl⟩|⟨o2,i',ver',hb',e2,l2,m2⟩
      ·rfl
      ·omega
     ·rcases b3 with⟨o2,e2⟩|⟨o2,i',ver',hb',e2,l2,m2⟩
      ·omega
      ·have:i=i':=by omega
       subst this;have:=hinj _ m1 _ m2 i ver ver' l1 l2;simp only at this;omega
  ·rcases hlive Y h1 with e|⟨Y0,k1,e⟩
   ·rw[e]at h2;cases h2
   ·rw[e]at h2;exact hh.nz Y0 c k1 h2
 ·have hs:=hr.slot t;show Rp _ _ _ _ ((unE h ds t).den) _;obtain⟨_,k2⟩:=zlb (E:=E) (ds:=ds) h.slots x [] y.1 hx (by rw[<- hds];simp);rcases k2 t with e|⟨s,q,pre,post,h1,h2,h3,h4⟩
  ·have:unE h ds t=.dead:=e;rw[this];simp only[TS.den];exact .unk _
  ·have:unE h ds t=unT ds s pre.length:=h4;rw[this];exact(z19 hT ds s (E t) q pre post h1 h2 λm hm=>hgood m (by rw[<- hfull];simp[h3 m hm])).2 _ hs
end
section
variable{A:Type}(D:Nat → Nat → Bool)(c:Nat → Nat → A)(s0:Nat → A)
def st(S:Nat->Bool):Nat->Nat->A
 |0,k=>s0 k
 |m+1,k=>if(S m && D m k)=true then c m k else st S m k
variable{D c s0}
theorem zsi{S:Nat->Bool}{i k:Nat}:∀N,i<=N->(∀m,m<N->D m k=true->(S m=true↔m<i))->st D c s0 S N k=st D c s0 (λ_=>true) i k
 |0,hi,h=>by
  have:i=0:=by omega
  subst this;rfl
 |N+1,hi,h=>by
  by_cases e:i=N+1
  ·subst e;clear hi;have key:∀M,M<=N+1->st D c s0 S M k=st D c s0 (λ_=>true) M k:=by
    intro M;induction M with
    |zero=>intro _;rfl
    |succ M ih=>
     intro hM;simp only[st];rw[ih (by omega)];by_cases hd:D M k=true
     ·have:=(h M (by omega) hd).2 (by omega);rw[this,hd]
     ·have:D M k=false:=by cases hh:D M k;rfl;exact absurd hh hd
      rw[this];simp
   exact key _ (weh _)
  ·have ih:=zsi N (by omega) (λm hm=>h m (by omega));simp only[st];by_cases hd:D N k=true
   ·have:¬S N=true:=λhs=>by have:=(h N (by omega) hd).1 hs;omega
    have:S N=false:=by cases hh:S N;rfl;exact absurd hh this
    rw[this];simpa using ih
   ·have:D N k=false:=by cases hh:D N k;rfl;exact absurd hh hd
    rw[this];simpa using ih
theorem z3a{S S':Nat->Bool}{i k:Nat}(hi:S' i=true)(hne:∀m,m≠i->S' m=S m):∀N,i<N->D i k=true->(∀m,i<m->m<N->D m k=true->S m=false)->st D c s0 S' N k=c i k
 |0,h,_,_=>by omega
 |N+1,h,hd,hl=>by
  simp only[st];by_cases e:i=N
  ·subst e;rw[hi,hd];simp
  ·have ih:=z3a hi hne N (by omega) hd (λm h1 h2=>hl m h1 (by omega));rw[ih,hne N (λe'=>e e'.symm)];by_cases hdN:D N k=true
   ·rw[hl N (by omega) (by omega) hdN];simp
   ·have:D N k=false:=by cases hh:D N k;rfl;exact absurd hh hdN
    rw[this];simp
theorem zwo{S S':Nat->Bool}{i k:Nat}(hne:∀m,m≠i->S' m=S m)(hd:D i k=false):∀N,st D c s0 S' N k=st D c s0 S N k
 |0=>rfl
 |N+1=>by
  simp only[st];rw[zwo hne hd N];by_cases e:N=i
  ·subst e;rw[hd];simp
  ·rw[hne N e]
theorem z3i{S S':Nat->Bool}{k:Nat}:∀N,(∀m,m<N->S m=S' m)->st D c s0 S N k=st D c s0 S' N k
 |0,_=>rfl
 |N+1,h=>by
  simp only[st];rw[z3i N λm hm=>h m (by omega),h N (by omega)]
theorem zrx{S:Nat->Bool}{k:Nat}:∀N,st D c s0 S N k=s0 k\/∃m,m<N/\D m k=true/\st D c s0 S N k=c m k
 |0 => .inl rfl
 |N+1=>by
  simp only[st];by_cases h:(S N && D N k)=true
  ·rw[if_pos h];simp only[wd8]at h;exact .inr ⟨N,by omega,h.2,rfl⟩
  ·rw[if_neg h];rcases zrx N with h1|⟨m,h1,h2,h3⟩
   ·exact .inl h1
   ·exact .inr ⟨m,by omega,h2,h3⟩
end
inductive Waits(ops:Array Oper):Nat->Nat->Prop
 |edge {i j:Nat}{o:Oper}{e:Edge}(ho:ops[j]?=some o) (he:e∈o.after) (hb:Region.binds .any e=true) (hi:e.on=i):Waits ops i j
 |trans {i j k:Nat}(h1:Waits ops i j) (h2:Waits ops j k):Waits ops i k
def Closed(ops:Array Oper)(S:Nat->Bool):Prop:=∀j o,S j=true->ops[j]?=some o->∀e∈o.after,Region.binds .any e=true->S e.on=true
theorem Closed.waits{ops:Array Oper}{S:Nat->Bool}(h:Closed ops S){i j:Nat}(hw:Waits ops i j):S j=true->S i=true:=by
 induction hw with
 |edge ho he hb hi=>intro hs;subst hi;exact h _ _ hs ho _ he hb
 |trans _ _ ih1 ih2=>exact λhs=>ih1 (ih2 hs)
def z26(acc:List Nat):List Edge->Nat
 |[]=>0
 |e::r=>match Region.binds .any e with
  |true=>Nat.lor (Nat.lor (Nat.shiftLeft 1 e.on) (acc.getD e.on 0)) (z26 acc r)
  |false=>z26 acc r
def jdd:List Oper->List Nat->List Nat
 |[],acc=>acc
 |o::l,acc=>jdd l (acc++[z26 acc o.after.toList])
theorem zv1{ops:Array Oper}{acc:List Nat}{j:Nat}{o:Oper}(ho:ops[j]?=some o)(hacc:∀k i,Nat.testBit (acc.getD k 0) i=true->Waits ops i k):∀(l:List Edge),(∀e∈l,e∈o.after)->∀i,Nat.testBit (z26 acc l) i=true->Waits ops i j
 |[],_,i,h=>by simp[z26]at h
 |e::l,hl,i,h=>by
  simp only[z26]at h;split at h
  ·rename_i hb;have h':(Nat.testBit (1 <<< e.on) i ||Nat.testBit (acc.getD e.on 0) i ||Nat.testBit (z26 acc l) i)=true:=by
    rw[<- Nat.testBit_or,<- Nat.testBit_or];exact h
   simp only[wft]at h';rcases h' with(h1|h1)|h1
   ·have:e.on=i:=by
     have:=h1;rw[Nat.one_shiftLeft,Nat.testBit_two_pow]at this;simpa using this
    exact .edge ho (hl e (by simp)) hb this
   ·exact .trans (hacc _ _ h1) (.edge ho (hl e (by simp)) hb rfl)
   ·exact zv1 ho hacc l (λe he=>hl e (by simp[he])) i h1
  ·exact zv1 ho hacc l (λe he=>hl e (by simp[he])) i h
theorem zx6{ops:Array Oper}:∀(l:List Oper)(acc:List Nat),(∀k o,l[k]?=some o->ops[acc.length+k]?=some o)->(∀k i,Nat.testBit (acc.getD k 0) i=true->Waits ops i k)->∀k i,Nat.testBit ((jdd l acc).getD k 0) i=true->Waits ops i k
 |[],acc,_,h,k,i,hb=>h k i hb
 |o::l,acc,hl,h,k,i,hb=>by
  simp only[jdd]at hb;refine zx6 l _ (λk o' hk=>?_) (λk i hk=>?_) k i hb
  ·have:=hl (k+1) o' (by simpa using hk);rw[weo,wez];rw[<- this];congr 1;omega
  ·rw[we8]at hk;by_cases e:k<acc.length
   ·rw[weg e,<- we8]at hk;exact h k i hk
   ·rw[wei (by omega)]at hk;by_cases e2:k=acc.length
    ·subst e2;have ho:=hl 0 o rfl;simp only[wfu]at ho;simp only[wg2,wge,wfd]at hk;exact zv1 ho h _ (λe he=>by simpa using he) i hk
    ·rw[wfv (by simp;omega)]at hk;simp at hk
def ids(ws:List (Nat×zcb))(k:Nat):Bool:=ws.any λx=>Nat.beq x.1 k
def zdu(ws:List (Nat×zcb))(k:Nat):zcb:=match ws with
 |[]=>⟨0,none⟩
 |x::r=>if ids r k=true then zdu r k else if x.1=k then x.2 else⟨0,none⟩
def zw(H:PHeap):List (Nat×zcb)->PHeap
 |[]=>H
 |x::r=>zw (H.set x.1 x.2) r
theorem zf8:∀(ws:List (Nat×zcb))(H:PHeap)(k:Nat),zw H ws k=if ids ws k=true then zdu ws k else H k
 |[],H,k=>by simp[zw,ids]
 |x::r,H,k=>by
  simp only[zw];rw[zf8 r];by_cases hr:ids r k=true
  ·rw[if_pos hr];have:ids (x::r) k=true:=by simp only[ids,List.any_cons,wft];exact .inr hr
   rw[if_pos this,zdu,if_pos hr]
  ·rw[if_neg hr];unfold PHeap.set;by_cases e:k=x.1
   ·subst e;have:ids (x::r) x.1=true:=by simp[ids]
    rw[if_pos rfl,if_pos this,zdu,if_neg hr,if_pos rfl]
   ·rw[if_neg e];have:¬ids (x::r) k=true:=by
     simp only[ids,List.any_cons,wft,not_or];refine⟨?_,hr⟩;intro hb;exact e (wd9 hb).symm
    rw[if_neg this]
structure OC where
 p:PV
 ws:List (Nat×zcb)
def zmj(ops:Array Oper)(m:Nat)(t:Nat):Bool:=match (ops[m]?).bind (·.dst)with
 |some d=>Nat.beq d t
 |none=>false
def fAt(ops:Array Oper)(oc:Nat->OC)(F0:PFrame)(S:Nat->Bool)(N:Nat):PFrame:=λt=>st (zmj ops) (λm _=>(oc m).p) F0 S N t
def hAt(oc:Nat->OC)(H0:PHeap)(S:Nat->Bool)(N:Nat):PHeap:=λk=>st (λm k=>ids (oc m).ws k) (λm k=>zdu (oc m).ws k) H0 S N k
def zmw(P:Program)(W:Env)(n:Nat)(ops:Array Oper)(o:Oper)(F:PFrame)(H:PHeap)(c:OC):Prop:=
 (qb ops o F=some true/\PE P W n o F H (λp H'=>p=c.p/\H'=zw H c.ws))\/(qb ops o F=some false/\jo n o/\c.p=.u undef/\c.ws=[])
def Meet(ops:Array Oper)(rt:Nat->Nat->Bool)(oc:Nat->OC)(i j:Nat):Prop:=
 (∃t,zmj ops i t=true/\(zmj ops j t=true\/∃o,ops[j]?=some o/\t∈o.looksAt ops))\/(∃t,zmj ops j t=true/\∃o,ops[i]?=some o/\t∈o.looksAt ops) \/
 (∃k,ids (oc i).ws k=true/\(ids (oc j).ws k=true\/rt j k=true))\/(∃k,ids (oc j).ws k=true/\rt i k=true)
section
variable{P:Program}{W:Env}{n:Nat}{ops:Array Oper}{oc:Nat → OC}{rt:Nat → Nat → Bool}{F0:PFrame}{H0:PHeap}
theorem zro{listed:Array Bool}{i:Nat}(h:i∈Region.ready .any ops listed):∃o,ops[i]?=some o/\listed.getD i true=false/\∀e∈o.after,Region.binds .any e=true->listed.getD e.on false=true:=by
 unfold Region.ready at h;obtain⟨h1,h2⟩:=whe.1 h;simp only[wd8,wg5]at h2;cases ho:ops[i]? with
 |none=>rw[ho]at h2;simp at h2
 |some o=>
  rw[ho]at h2;refine⟨o,rfl,h2.1,λe he hb=>?_⟩;have:=h2.2;simp only[wer,wfd,Array.all_eq_true']at this;have:=this e he;simpa [hb]using this
theorem jcc{Q':Exit->Act->World->Prop}{Inv:PFrame->PHeap->Prop}(hinv:∀S,Inv (fAt ops oc F0 S ops.size) (hAt oc H0 S ops.size))
  (hloc:∀i o,ops[i]?=some o->∀F H,Inv F H->(∀t∈o.looksAt ops,F t=fAt ops oc F0 (λ_=>true) i t)->(∀k,(rt i k=true\/ids (oc i).ws k=true)->H k=hAt oc H0 (λ_=>true) i k)->zmw P W n ops o F H (oc i))
  (hmeet:∀i j,i<j->j<ops.size->Meet ops rt oc i j->Waits ops i j)
  (hfwd:∀j o,ops[j]?=some o->∀e∈o.after,Region.binds .any e=true->e.on<j)
  (hQ:∀V a w,Rel P W n (fAt ops oc F0 (λ_=>true) ops.size) (hAt oc H0 (λ_=>true) ops.size) V a w->Q' .normal a w) :
  ∀(fuel:Nat)(listed:Array Bool)(V:Nat->Value)(a:Act)(w:World),listed.size=ops.size->((List.range ops.size).filter λi=>!listed.getD i false).length<=fuel->Closed ops (λi=>listed.getD i false) ->
   Rel P W n (fAt ops oc F0 (λi=>listed.getD i false) ops.size) (hAt oc H0 (λi=>listed.getD i false) ops.size) V a w->wpAny P .any ops Q' fuel listed a w:=by
 have hdone:∀(listed:Array Bool)(V:Nat->Value)(a:Act)(w:World),listed.size=ops.size->Region.ready .any ops listed=[]->Rel P W n (fAt ops oc F0 (λi=>listed.getD i false) ops.size) (hAt oc H0 (λi=>listed.getD i false) ops.size) V a w->Q' .normal a w:=by
  intro listed V a w hsz hr hrel;have hall:∀m,m<ops.size->listed.getD m false=true:=by
   intro m;induction m using Nat.strongRecOn with
   |ind m ih=>
    intro hm;cases hl:listed.getD m false
    ·exfalso;have:m∈Region.ready .any ops listed:=by
      unfold Region.ready;refine whe.2 ⟨wf7.2 hm,?_⟩;have ho:ops[m]?=some ops[m]:=wet hm;have hl2:listed.getD m true=false:=by
       rw[we3,wet (by omega)]at hl⊢;simpa using hl
      rw[ho];simp only[hl2,Bool.not_false,wgw,wer,wfd,Array.all_eq_true'];intro e he;cases hb:Region.binds .any e
      ·rfl
      ·have:=hfwd m _ ho e he hb;simp only[Bool.not_true,Bool.false_or];exact ih _ this (by omega)
     rw[hr]at this;cases this
    ·rfl
  refine hQ V a w ?_;have e1:fAt ops oc F0 (λi=>listed.getD i false) ops.size=fAt ops oc F0 (λ_=>true) ops.size:=by
   funext t;exact z3i _ λm hm=>by simp[hall m hm]
  have e2:hAt oc H0 (λi=>listed.getD i false) ops.size=hAt oc H0 (λ_=>true) ops.size:=by
   funext t;exact z3i _ λm hm=>by simp[hall m hm]
  rw[<- e1,<- e2];exact hrel
 intro fuel;induction fuel with
 |zero=>
  intro listed V a w hsz hf hcl hrel;have hnil:Region.ready .any ops listed=[]:=by
   cases hr:Region.ready .any ops listed with
   |nil=>rfl
   |cons i r=>
    exfalso;have hi:i∈Region.ready .any ops listed:=by rw[hr];simp
    obtain⟨o,ho,hl,_⟩:=zro hi;have him:i<ops.size:=(wew.1 ho).1;have:i∈(List.range ops.size).filter λi=>!listed.getD i false:=by
     refine whe.2 ⟨wf7.2 him,?_⟩;rw[we3,wet (by omega)]at hl⊢;simpa using hl
    have:=List.length_pos_of_mem this;omega
  exact⟨hnil,hdone listed V a w hsz hnil hrel⟩
 |succ fuel ih=>
  intro listed V a w hsz hf hcl hrel;refine⟨λh0=>hdone listed V a w hsz h0 hrel,λi hi=>?_⟩;obtain⟨o,ho,hl,hed⟩:=zro hi;have him:i<ops.size:=(wew.1 ho).1;have hlf:listed.getD i false=false:=by
   rw[we3,wet (by omega)]at hl⊢;simpa using hl
  have hset:∀m,(listed.setIfInBounds i true).getD m false=if m=i then true else listed.getD m false:=by
   intro m;simp only[we3];by_cases e:m=i
   ·subst e;rw[if_pos rfl,Array.getElem?_setIfInBounds_self_of_lt (by omega)];rfl
   ·rw[if_neg e,wgk (λh=>e h.symm)]
  have hpre:∀m,Waits ops m i->listed.getD m false=true:=by
   intro m hw;have key:∀{x y:Nat},Waits ops x y->y=i->listed.getD x false=true:=by
    intro x y hxy;induction hxy with
    |edge ho' he hb hon=>
     intro e;subst e;rw[ho]at ho';cases ho';rw[<- hon];exact hed _ he hb
    |trans h1 h2 ih1 ih2=>
     intro e;have:=ih2 e;exact hcl.waits h1 this
   exact key hw rfl
  have hpost:∀m,Waits ops i m->listed.getD m false=false:=by
   intro m hw;cases hm:listed.getD m false
   ·rfl
   ·exact absurd (hcl.waits hw hm) (by rw[hlf];simp)
  have hlook:∀t∈o.looksAt ops,fAt ops oc F0 (λi=>listed.getD i false) ops.size t=fAt ops oc F0 (λ_=>true) i t:=by
   intro t ht;refine zsi _ (by omega) λm hm hd=>?_;rcases Nat.lt_trichotomy m i with h|h|h
   ·have:=hpre m (hmeet m i h him (.inl ⟨t,hd,.inr ⟨o,ho,ht⟩⟩));exact⟨λ_=>h,λ_=>this⟩
   ·subst h;simp[hlf]
   ·have:=hpost m (hmeet i m h hm (.inr (.inl ⟨t,hd,o,ho,ht⟩)));simp[this];omega
  have hheap:∀k,(rt i k=true\/ids (oc i).ws k=true)->hAt oc H0 (λi=>listed.getD i false) ops.size k=hAt oc H0 (λ_=>true) i k:=by
   intro k hk;refine zsi _ (by omega) λm hm hd=>?_;rcases Nat.lt_trichotomy m i with h|h|h
   ·have:=hpre m (hmeet m i h him (.inr (.inr (.inl ⟨k,hd,hk.symm⟩))));exact⟨λ_=>h,λ_=>this⟩
   ·subst h;simp[hlf]
   ·have:Waits ops i m:=by
     rcases hk with hk|hk
     ·exact hmeet i m h hm (.inr (.inr (.inr ⟨k,hd,hk⟩)))
     ·exact hmeet i m h hm (.inr (.inr (.inl ⟨k,hk,.inl hd⟩)))
    have:=hpost m this;simp[this];omega
  have hstep:=hloc i o ho _ _ (hinv _) hlook hheap;have hF':fAt ops oc F0 (λm=>(listed.setIfInBounds i true).getD m false) ops.size=(fAt ops oc F0 (λm=>listed.getD m false) ops.size).put o.dst (oc i).p:=by
   funext t;unfold PFrame.put;by_cases e:o.dst=some t
   ·rw[if_pos e];have hdt:zmj ops i t=true:=by unfold zmj;rw[ho];simp[e]
    refine z3a (S:=λm=>listed.getD m false) (i:=i) (by simp[hset]) (λm hm=>?_) ops.size him hdt λm h1 h2 h3=>?_
    ·exact(hset m).trans (if_neg hm)
    ·exact hpost m (hmeet i m h1 h2 (.inl ⟨t,hdt,.inl h3⟩))
   ·rw[if_neg e];have hdt:zmj ops i t=false:=by
     unfold zmj;rw[ho];simp only[wfp];cases hd:o.dst with
     |none=>rfl
     |some d=>
      simp only;cases hb:Nat.beq d t
      ·rfl
      ·rw[hd,wd9 hb]at e;exact absurd rfl e
    exact zwo (i:=i) (λm hm=>(hset m).trans (if_neg hm)) hdt ops.size
  have hH':hAt oc H0 (λm=>(listed.setIfInBounds i true).getD m false) ops.size=zw (hAt oc H0 (λm=>listed.getD m false) ops.size) (oc i).ws:=by
   funext k;rw[zf8];by_cases e:ids (oc i).ws k=true
   ·rw[if_pos e];refine z3a (S:=λm=>listed.getD m false) (i:=i) (by simp[hset]) (λm hm=>(hset m).trans (if_neg hm)) ops.size him e λm h1 h2 h3=>?_;exact hpost m (hmeet i m h1 h2 (.inr (.inr (.inl ⟨k,e,.inl h3⟩))))
   ·rw[if_neg e];have e':ids (oc i).ws k=false:=by cases hh:ids (oc i).ws k;rfl;exact absurd hh e
    exact zwo (i:=i) (λm hm=>(hset m).trans (if_neg hm)) e' ops.size
  have hcl':Closed ops (λm=>(listed.setIfInBounds i true).getD m false):=by
   intro j oj hj hoj e he hb;simp only[hset]at hj⊢;by_cases h2:e.on=i
   ·rw[if_pos h2]
   ·rw[if_neg h2];by_cases h1:j=i
    ·subst h1;rw[ho]at hoj;cases hoj;exact hed e he hb
    ·rw[if_neg h1]at hj;exact hcl j oj hj hoj e he hb
  have hcount:((List.range ops.size).filter λm=>!(listed.setIfInBounds i true).getD m false).length<=fuel:=by
   have h1:i∈(List.range ops.size).filter λi=>!listed.getD i false:=whe.2 ⟨wf7.2 him,by simp[hlf]⟩;have h2:((List.range ops.size).filter λm=>!(listed.setIfInBounds i true).getD m false)=((List.range ops.size).filter λi=>!listed.getD i false).filter λm=>decide (m≠i):=by
    rw[List.filter_filter];refine List.filter_congr λm _=>?_;rw[hset];by_cases e:m=i
    ·subst e;simp
    ·simp[e]
   rw[h2];have:=List.length_filter_lt_length_iff_exists (p:=λm=>decide (m≠i)) (l:=(List.range ops.size).filter λi=>!listed.getD i false);have:=this.2 ⟨i,h1,by simp⟩;omega
  have next:∀V' a' w',Rel P W n ((fAt ops oc F0 (λm=>listed.getD m false) ops.size).put o.dst (oc i).p) (zw (hAt oc H0 (λm=>listed.getD m false) ops.size) (oc i).ws) V' a' w'->wpAny P .any ops Q' fuel (listed.setIfInBounds i true) a' w':=λV' a' w' hr'=>
   ih _ V' a' w' (by simp[hsz]) hcount hcl' (by rw[hF',hH'];exact hr')
  unfold wpOp;simp only[ho];rcases hstep with⟨hw,hpe⟩|⟨hw,hd,hp,hws⟩
  ·rw[y4 hw hrel.slot];simp only[if_true];exact .inl (z5h (hpe V a w hrel) λa' w'⟨p,H',V',⟨e1,e2⟩,hr'⟩=>next V' a' w' (by rw[<- e1,<- e2];exact hr'))
  ·rw[y4 hw hrel.slot];simp only[we4,if_false];refine next V _ w ?_
   rw[hp,hws];exact hrel.put (Below.refl _ _) o.dst hd (.u _)
theorem wb7{id:Nat}{Q:Exit->PFrame->PHeap->Prop}{Inv:PFrame->PHeap->Prop}(hinv:∀S,Inv (fAt ops oc F0 S ops.size) (hAt oc H0 S ops.size))(hm:P.follows .mixedOrders=true)
  (hloc:∀i o,ops[i]?=some o->∀F H,Inv F H->(∀t∈o.looksAt ops,F t=fAt ops oc F0 (λ_=>true) i t)->(∀k,(rt i k=true\/ids (oc i).ws k=true)->H k=hAt oc H0 (λ_=>true) i k)->zmw P W n ops o F H (oc i))
  (hmeet:∀i j,i<j->j<ops.size->Meet ops rt oc i j->Waits ops i j)
  (hfwd:∀j o,ops[j]?=some o->∀e∈o.after,Region.binds .any e=true->e.on<j)
  (hQ:Q .normal (fAt ops oc F0 (λ_=>true) ops.size) (hAt oc H0 (λ_=>true) ops.size)):PC P W n (.region id ops true) F0 H0 Q:=λV a w Q' hr hQ'=>by
 refine wp_region_any hm ?_;have h0:∀i,(Array.replicate ops.size false).getD i false=false:=by
  intro i;rw[we3,Array.getElem?_replicate];split<;>rfl
 have hc:(λi=>(Array.replicate ops.size false).getD i false)=λ_=>false:=funext h0;have e0:∀{A:Type}(D:Nat->Nat->Bool)(c:Nat->Nat->A)(s0:Nat->A)(N k:Nat),st D c s0 (λ_=>false) N k=s0 k:=by
  intro A D c s0 N k;induction N with
  |zero=>rfl
  |succ N ih=>simp only[st,Bool.false_and,we4,if_false];exact ih
 refine jcc (Q':=Q') hinv hloc hmeet hfwd (λV' a' w' hr'=>hQ' _ _ _ _ _ _ hQ hr') ops.size _ V a _ (by simp) ?_ ?_ ?_
 ·exact wfn (wgs _ _) (by simp)
 ·intro j o hj;simp only[h0]at hj;cases hj
 ·rw[hc];have e1:fAt ops oc F0 (λ_=>false) ops.size=F0:=by funext t;exact e0 _ _ _ _ _
  have e2:hAt oc H0 (λ_=>false) ops.size=H0:=by funext t;exact e0 _ _ _ _ _
  rw[e1,e2];exact hr.drawn
end
def jb{α β:Type}(o:Option α)(f:α->Option β):Option β:=match o with
 |none=>none
 |some a=>f a
theorem zb1{α β:Type}{o:Option α}{f:α->Option β}{r:β}(h:jb o f=some r):∃a,o=some a/\f a=some r:=by
 cases o with
 |none=>cases h
 |some a=>exact⟨a,rfl,h⟩
def ifB{β:Type}(c:Bool)(x y:Option β):Option β:=match c with
 |true=>x
 |false=>y
def jm{σ β:Type}(B:σ->(σ->Option β)->Option β):Nat->σ->Option β
 |0,_=>none
 |m+1,s=>B s (jm B m)
def J{σ β:Type}(rest:σ->Option β)(A:(σ->Option β)->Option β):Option β:=A rest
@[reducible] def DL:List Ty->Type
 |[]=>Unit
 |[t]=>t.D
 |t::u::ts=>t.D×DL (u::ts)
def zwy:(ts:List Ty)->List Dyn->Option (DL ts)
 |[],[]=>some ()
 |[t],[d]=>d.as t
 |t::u::ts,d::ds=>match d.as t with
  |none=>none
  |some x=>match zwy (u::ts) ds with
   |none=>none
   |some y=>some (x,y)
 |_,_=>none
def Je:(ts:List Ty)->DL ts->List Dyn
 |[],_=>[]
 |[t],x=>[⟨t,x⟩]
 |t::u::ts,x=>⟨t,x.1⟩::Je (u::ts) x.2
theorem z4v:∀{ts:List Ty}{l:List Dyn}{d:DL ts},zwy ts l=some d->Je ts d=l
 |[],l,d,h=>by
  cases l with
  |nil=>rfl
  |cons _ _=>simp[zwy]at h
 |[t],l,d,h=>by
  match l,h with
  |[e],h=>simp only[zwy]at h;simp only[Je,wai h]
  |[],h=>simp[zwy]at h
  |_::_::_,h=>simp[zwy]at h
 |t::u::ts,l,d,h=>by
  cases l with
  |nil=>simp[zwy]at h
  |cons e l=>
   simp only[zwy]at h;split at h<;>try (cases h;done)
   rename_i x hx;split at h<;>try (cases h;done)
   rename_i y hy;cases h;simp only[Je,wai hx,z4v hy]
mutual
def tysT:HS->List Ty
 |.v t=>[t]
 |.rd t=>[t]
 |.fn _ a b=>zrg a++zrg b
 |.agg xs=>zrg xs
 |.tup xs=>zrg xs
 |_=>[]
def zrg:List HS->List Ty
 |[]=>[]
 |h::hs=>tysT h++zrg hs
end
def tysB:HB->List Ty
 |.row _ t=>[.sl t]
 |.rowx _ _ hs=>zrg hs
 |.box _ hs=>zrg hs
 |.obj k=>[k.ty]
def jfp:List (Nat×HS)->List Ty
 |[]=>[]
 |h::hs=>tysT h.2++jfp hs
def jf1:List (Nat×HB)->List Ty
 |[]=>[]
 |h::hs=>tysB h.2++jf1 hs
def LH.tys(h:LH):List Ty:=jfp h.slots++jf1 h.heap
def jal(b:Nat)(h:LH)(E:EF)(G:EG):Option (DL h.tys):=match jav b h E G with
 |some r=>zwy h.tys r.1
 |none=>none
def meet{β:Type}(b:Nat)(h:LH)(j:DL h.tys->Option β)(E:EF)(G:EG):Option β:=match jal b h E G with
 |some t=>j t
 |none=>none
structure SR where
 α:Type
 imm:Bool
 o:Option α
 s:α->TS
 w:α->List (Nat×GB)
 rd:List Nat
 tc:List Nat
def sets(G:EG):List (Nat×GB)->EG
 |[]=>G
 |x::r=>sets (G.set x.1 x.2) r
def za8(ws:List (Nat×GB)):List (Nat×zcb):=ws.map λy=>(2*y.1,qj y.2)
theorem zvo(R:PHeap):∀(ws:List (Nat×GB))(G:EG),qf (sets G ws) R=zw (qf G R) (za8 ws)
 |[],G=>rfl
 |x::r,G=>by simp only[sets,za8,wen,zw];rw[zvo R r,z9z];rfl
def SOk(P:Program)(o:Oper)(E:EF)(G:EG)(q:SR):Prop:=
 (∀x,(q.w x).map Prod.fst=q.tc)/\∀x,q.o=some x->∀(W:Env)(n:Nat)(F:PFrame)(H:PHeap),FlW W F H->jo n o->(∀t,Operand.tmp t∈o.op.operands->F t=(E t).den)->(∀id,id∈q.rd\/id∈q.tc->H (2*id)=qj (G id)) ->
  PE P W n o F H (λp H'=>p=(q.s x).den/\H'=zw H (za8 (q.w x)))
structure RT where
 rd:List Nat
 tc:List Nat
structure SK where
 run:{β:Type}->(TS->List (Nat×GB)->RT->Option β)->Option β
def z9s(P:Program)(o:Oper)(E:EF)(G:EG)(s:TS)(ws:List (Nat×GB))(rt:RT):Prop:=
 (∀id∈ws.map Prod.fst,id∈rt.tc)/\∀(W:Env)(n:Nat)(F:PFrame)(H:PHeap),FlW W F H->jo n o->(∀t,Operand.tmp t∈o.op.operands->F t=(E t).den)->(∀id,id∈rt.rd\/id∈ws.map Prod.fst->H (2*id)=qj (G id)) ->
  PE P W n o F H (λp H'=>p=s.den/\H'=zw H (za8 ws))
def z75(P:Program)(o:Oper)(E:EF)(G:EG)(q:SK):Prop:=
 ∀{β:Type}(k:TS->List (Nat×GB)->RT->Option β)(r:β),q.run k=some r->∃s ws rt,k s ws rt=some r/\(∀{γ:Type}(k2:TS->List (Nat×GB)->RT->Option γ),q.run k2=k2 s ws rt)/\z9s P o E G s ws rt
abbrev SyT:=Nat->Nat->Nat->Oper->EF->EG->Option SK
def zpk(P:Program)(sy:SyT):Prop:=∀ctx nid site o E G q,sy ctx nid site o E G=some q->z75 P o E G q
def jbb{β:Type}(q:SR)(k:q.α->Option β):Option β:=match q.imm with
 |true=>match q.o with
  |some x=>k x
  |none=>none
 |false=>jb q.o k
theorem z63{β:Type}{q:SR}{k:q.α->Option β}{r:β}(h:jbb q k=some r):∃x,q.o=some x/\k x=some r:=by
 unfold jbb at h;split at h
 ·split at h
  ·exact⟨_,by assumption,h⟩
  ·cases h
 ·exact zb1 h
def jao(n:Nat)(o:Oper):Bool:=match o.dst with
 |none=>true
 |some d=>Nat.blt d n
theorem z4s{n:Nat}{o:Oper}(h:jao n o=true):jo n o:=λt ht=>by
 unfold jao at h;rw[ht]at h;simpa [wg1]using h
def SR.k(q:SR):SK:=⟨λk=>jbb q λx=>k (q.s x) (q.w x) ⟨q.rd,q.tc⟩⟩
theorem SOk.k{P:Program}{o:Oper}{E:EF}{G:EG}{q:SR}(h:SOk P o E G q):z75 P o E G q.k:=λk r hr=>by
 obtain⟨x,hx,hk⟩:=z63 hr;refine⟨q.s x,q.w x,⟨q.rd,q.tc⟩,hk,λk2=>?_,λid hid=>by rw[h.1 x]at hid;exact hid,by rw[h.1 x];exact h.2 x hx⟩;show jbb q _=_;unfold jbb;rw[hx];cases q.imm<;>rfl
def eqb(c w:Bool):Bool:=match c,w with
 |true,true=>true
 |false,false=>true
 |_,_=>false
theorem z3l{c w:Bool}:eqb c w=(c == w):=by cases c<;>cases w<;>rfl
def UND:TS :=.c undef
def NB:Nat:=16
section
variable(sy:SyT)(ctx n:Nat){β:Type}
def do1(rid nx i:Nat)(o:Oper)(E:EF)(G:EG)(acc:List RT)(k:EF->EG->List RT->Option β):Option β:=match sy ctx (nx+i*NB) (rid*64+i) o E G with
 |some q=>q.run λs ws rt=>k (E.put o.dst s) (sets G ws) (acc++[rt])
 |none=>none
def Zn(ops:Array Oper)(rid nx:Nat):List Oper->Nat->EF->EG->List RT->(EF->EG->List RT->Option β)->Option β
 |[],_,E,G,acc,k=>k E G acc
 |o::l,i,E,G,acc,k=>match jao n o with
  |false=>none
  |true=>match o.guard with
   |none=>do1 sy ctx rid nx i o E G acc λE' G' acc'=>Zn ops rid nx l (i+1) E' G' acc' k
   |some (j,w)=>match (ops[j]?).bind (·.dst)with
    |none=>none
    |some d=>match E d with
     |.c (.bool c)=>match eqb c w with
      |true=>do1 sy ctx rid nx i o E G acc λE' G' acc'=>Zn ops rid nx l (i+1) E' G' acc' k
      |false=>Zn ops rid nx l (i+1) (E.put o.dst UND) G (acc++[⟨[],[]⟩]) k
     |.c (.tuple _)=>Zn ops rid nx l (i+1) (E.put o.dst UND) G (acc++[⟨[],[]⟩]) k
     |.v ⟨.bool,c⟩=>ifB c
      (match w with
      |true=>do1 sy ctx rid nx i o (E.put (some d) (.c (.bool true))) G acc λE' G' acc'=>Zn ops rid nx l (i+1) E' G' acc' k
      |false=>Zn ops rid nx l (i+1) ((E.put (some d) (.c (.bool true))).put o.dst UND) G (acc++[⟨[],[]⟩]) k)
      (match w with
      |false=>do1 sy ctx rid nx i o (E.put (some d) (.c (.bool false))) G acc λE' G' acc'=>Zn ops rid nx l (i+1) E' G' acc' k
      |true=>Zn ops rid nx l (i+1) ((E.put (some d) (.c (.bool false))).put o.dst UND) G (acc++[⟨[],[]⟩]) k)
     |_=>none
end
theorem zj1{E:EF}{d:Nat}{s:TS}(h:(E d).den=s.den):zj (E.put (some d) s)=zj E:=by
 rw[zrd];funext t;unfold PFrame.put;by_cases e:some d=some t
 ·rw[if_pos e];cases e;exact h.symm
 ·rw[if_neg e]
theorem zbm{ops:Array Oper}{o:Oper}{j d:Nat}{w c:Bool}{E:EF}{F:PFrame}(hg:o.guard=some (j,w))(hd:(ops[j]?).bind (·.dst)=some d)(hE:F d=.u (.bool c)):qb ops o F=some (c == w):=by
 unfold qb;rw[hg];simp only;rw[hd];simp only;rw[hE]
theorem z12{ops:Array Oper}{o:Oper}{j d:Nat}{w:Bool}{vs:Array Value}{F:PFrame}(hg:o.guard=some (j,w))(hd:(ops[j]?).bind (·.dst)=some d)(hE:F d=.u (.tuple vs)):qb ops o F=some false:=by
 unfold qb;rw[hg];simp only;rw[hd];simp only;rw[hE]
inductive Out(P:Program)(n:Nat)(ops:Array Oper)(o:Oper)(E:EF)(G:EG):EF->EG->RT->Prop
 |done {E1:EF}{s:TS}{ws:List (Nat×GB)}{rt:RT}(he:zj E1=zj E) (hd:jao n o=true) (hw:∀F:PFrame,(∀t∈o.looksAt ops,F t=zj E t)->qb ops o F=some true) (hs:z9s P o E1 G s ws rt):Out P n ops o E G (E1.put o.dst s) (sets G ws) rt
 |skip {E1:EF}(he:zj E1=zj E) (hd:jao n o=true) (hw:∀F:PFrame,(∀t∈o.looksAt ops,F t=zj E t)->qb ops o F=some false):Out P n ops o E G (E1.put o.dst UND) G ⟨[],[]⟩
theorem zzz{ops:Array Oper}{o:Oper}{j d:Nat}{w:Bool}(hg:o.guard=some (j,w))(hd:(ops[j]?).bind (·.dst)=some d):d∈o.looksAt ops:=by
 unfold Oper.looksAt;rw[hg];simp only;rw[hd];simp
theorem zk3{P:Program}{sy:SyT}(hsy:zpk P sy){ctx:Nat}{β:Type}{rid nx i:Nat}{o:Oper}{E1:EF}{G:EG}{acc:List RT}{k:EF->EG->List RT->Option β}{r:β}(h:do1 sy ctx rid nx i o E1 G acc k=some r):
  ∃s ws rt,z9s P o E1 G s ws rt/\k (E1.put o.dst s) (sets G ws) (acc++[rt])=some r/\∀{γ:Type}(k2:EF->EG->List RT->Option γ),do1 sy ctx rid nx i o E1 G acc k2=k2 (E1.put o.dst s) (sets G ws) (acc++[rt]):=by
 unfold do1 at h;split at h<;>try (cases h;done)
 rename_i q hq;obtain⟨s,ws,rt,hk,h2,hl⟩:=hsy _ _ _ _ _ _ _ hq _ _ h;exact⟨s,ws,rt,hl,hk,λk2=>by unfold do1;rw[hq];exact h2 _⟩
theorem z66{P:Program}{sy:SyT}(hsy:zpk P sy){ctx n:Nat}{β:Type}{ops:Array Oper}{rid nx:Nat}{o:Oper}{l:List Oper}{i:Nat}{E:EF}{G:EG}{acc:List RT}{k:EF->EG->List RT->Option β}{r:β}(h:Zn sy ctx n ops rid nx (o::l) i E G acc k=some r):
  ∃E' G' rt,Out P n ops o E G E' G' rt/\Zn sy ctx n ops rid nx l (i+1) E' G' (acc++[rt]) k=some r/\∀{γ:Type}(k2:EF->EG->List RT->Option γ),Zn sy ctx n ops rid nx (o::l) i E G acc k2=Zn sy ctx n ops rid nx l (i+1) E' G' (acc++[rt]) k2:=by
 unfold Zn at h;split at h<;>try (cases h;done)
 rename_i hd;split at h
 ·rename_i hg;obtain⟨s,ws,rt,hl,hk,h2⟩:=zk3 hsy h;exact⟨_,_,_,.done rfl hd (λF _=>by unfold qb;rw[hg]) hl,hk,λk2=>by
   rw[Zn];simp only[hd,hg];exact h2 _⟩
 ·rename_i j w hg;split at h<;>try (cases h;done)
  rename_i d hdst;have hl:=zzz hg hdst;split at h
  ·rename_i c hE;have hF:∀F:PFrame,(∀t∈o.looksAt ops,F t=zj E t)->F d=.u (.bool c):=λF hF=>by rw[hF d hl];unfold zj;rw[hE];simp only[TS.den];rfl
   split at h
   ·rename_i he;obtain⟨s,ws,rt,hl,hk,h2⟩:=zk3 hsy h;refine⟨_,_,_,.done rfl hd (λF hf=>by rw[zbm (E:=E) hg hdst (hF F hf),<- z3l,he]) hl,hk,λk2=>?_⟩;rw[Zn];simp only[hd,hg,hdst,hE,he];exact h2 _
   ·rename_i he;refine⟨_,_,_,.skip rfl hd (λF hf=>by rw[zbm (E:=E) hg hdst (hF F hf),<- z3l,he]),h,λk2=>?_⟩;rw[Zn];simp only[hd,hg,hdst,hE,he]
  ·rename_i vs hE;refine⟨_,_,_,.skip rfl hd (λF hf=>z12 hg hdst (by rw[hf d hl];unfold zj;rw[hE];simp only[TS.den];rfl)),h,λk2=>?_⟩;rw[Zn];simp only[hd,hg,hdst,hE]
  ·rename_i c hE;have hden:(E d).den=(TS.c (.bool c)).den:=by rw[hE];simp only[TS.den];rfl
   have hF:∀F:PFrame,(∀t∈o.looksAt ops,F t=zj E t)->F d=.u (.bool c):=λF hF=>by rw[hF d hl];unfold zj;rw[hden];simp only[TS.den];rfl
   unfold ifB at h;split at h
   ·split at h
    ·obtain⟨s,ws,rt,hl,hk,h2⟩:=zk3 hsy h;refine⟨_,_,_,.done (zj1 hden) hd (λF hf=>by rw[zbm (E:=E) hg hdst (hF F hf)];rfl) hl,hk,λk2=>?_⟩;rw[Zn];simp only[hd,hg,hdst,hE,ifB];exact h2 _
    ·refine⟨_,_,_,.skip (zj1 hden) hd (λF hf=>by rw[zbm (E:=E) hg hdst (hF F hf)];rfl),h,λk2=>?_⟩;rw[Zn];simp only[hd,hg,hdst,hE,ifB]
   ·split at h
    ·obtain⟨s,ws,rt,hl,hk,h2⟩:=zk3 hsy h;refine⟨_,_,_,.done (zj1 hden) hd (λF hf=>by rw[zbm (E:=E) hg hdst (hF F hf)];rfl) hl,hk,λk2=>?_⟩;rw[Zn];simp only[hd,hg,hdst,hE,ifB];exact h2 _
    ·refine⟨_,_,_,.skip (zj1 hden) hd (λF hf=>by rw[zbm (E:=E) hg hdst (hF F hf)];rfl),h,λk2=>?_⟩;rw[Zn];simp only[hd,hg,hdst,hE,ifB]
  ·cases h
section
variable{P:Program}{W:Env}{n:Nat}{R:PHeap}{sy:SyT}{ctx:Nat}
def jaz(P:Program)(W:Env)(n:Nat)(ops:Array Oper)(R:PHeap)(o:Oper)(E:EF)(G:EG)(c:OC)(rt:RT)(E':EF)(G':EG):Prop:=
 (∀F H,FlW W F H->(∀t∈o.looksAt ops,F t=zj E t)->(∀k,((∃id∈rt.rd,k=2*id)\/ids c.ws k=true)->H k=qf G R k)->zmw P W n ops o F H c) /\
 zj E'=(zj E).put o.dst c.p/\qf G' R=zw (qf G R) c.ws/\(∀k,ids c.ws k=true->∃id∈rt.tc,k=2*id)/\Fl c.p/\∀k,FlB (zdu c.ws k)
theorem zz8:∀(ws:List (Nat×GB))(k:Nat),FlB (zdu (za8 ws) k)
 |[],k=>λbd h=>by simp[za8,zdu]at h
 |x::r,k=>by
  simp only[za8,wen,zdu];split
  ·exact zz8 r k
  ·split
   ·exact zw6 _
   ·exact λbd h=>by cases h
theorem zky{ws:List (Nat×GB)}{k:Nat}:ids (za8 ws) k=true↔∃id∈ws.map Prod.fst,k=2*id:=by
 unfold ids za8;rw[List.any_map,wgq];constructor
 ·rintro⟨x,hx,hb⟩;exact⟨x.1,wef.2 ⟨x,hx,rfl⟩,(wd9 hb).symm⟩
 ·rintro⟨id,hid,rfl⟩;obtain⟨x,hx,rfl⟩:=wef.1 hid;exact⟨x,hx,by simp⟩
theorem ztx{ops:Array Oper}{o:Oper}{t:Nat}(h:Operand.tmp t∈o.op.operands):t∈o.looksAt ops:=by
 unfold Oper.looksAt;refine wgr _ ?_;rw[List.mem_filterMap];exact⟨_,by simpa using h,rfl⟩
theorem Out.step{ops:Array Oper}{o:Oper}{E:EF}{G:EG}{E':EF}{G':EG}{rt:RT}(h:Out P n ops o E G E' G' rt):∃c,∀W R,jaz P W n ops R o E G c rt E' G':=by
 cases h with
 | @done E1 s ws rt he hd hw hs=>
  obtain⟨hs1,hs2⟩:=hs;refine⟨⟨s.den,za8 ws⟩,λW R=>⟨λF H hfl hF hH=> .inl ⟨hw F hF,?_⟩,?_,zvo R _ _,λk hk=>?_,zl6 _,zz8 _⟩⟩
  ·refine hs2 W n F H hfl (z4s hd) (λt ht=>?_) λid hid=>?_
   ·rw[hF t (ztx ht),<- he];rfl
   ·rw[hH (2*id) ?_,qe];rcases hid with hid|hid
    ·exact .inl ⟨id,hid,rfl⟩
    ·exact .inr (zky.2 ⟨id,hid,rfl⟩)
  ·rw[zrd,he]
  ·obtain⟨id,h1,h2⟩:=zky.1 hk;exact⟨id,hs1 id h1,h2⟩
 | @skip E1 he hd hw=>
  refine⟨⟨.u undef,[]⟩,λW R=>⟨λF H hfl hF hH=> .inr ⟨hw F hF,z4s hd,rfl,rfl⟩,?_,rfl,λk hk=>by simp[ids]at hk,.noP (.u _),λk bd h=>by simp[zdu]at h⟩⟩;rw[zrd,he];congr 1
theorem PE.mono{o:Oper}{F:PFrame}{H:PHeap}{k k':PV->PHeap->Prop}(h:PE P W n o F H k)(hk:∀p H',k p H'->k' p H'):PE P W n o F H k':=λV a w hr=>
 Oper.wp_mono (λa' w'⟨p,H',V',h1,h2⟩=>⟨p,H',V',hk p H' h1,h2⟩) (h V a w hr)
def RFl(R:PHeap):Prop:=∀i,FlB (R i)
theorem z4z(hW:∀i,Fl (W.G i))(hR:RFl R)(E:EF)(G:EG):FlW W (zj E) (qf G R):=⟨hW,λt=>zl6 _,λk=>by
 unfold qf z7e;split
 ·exact zw6 _
 ·exact hR _⟩
inductive Steps(P:Program)(n:Nat)(ops:Array Oper):List Oper->EF->EG->List OC->List RT->EF->EG->Prop
 |nil {E:EF}{G:EG}:Steps P n ops [] E G [] [] E G
 |cons {o:Oper}{l:List Oper}{E E1 E':EF}{G G1 G':EG}{c:OC}{rt:RT}{cs:List OC}{rts:List RT}(h:∀W R,jaz P W n ops R o E G c rt E1 G1) (hs:Steps P n ops l E1 G1 cs rts E' G'):Steps P n ops (o::l) E G (c::cs) (rt::rts) E' G'
theorem Steps.seq(hW:∀i,Fl (W.G i))(hR:RFl R){ops:Array Oper}{K:PFrame->PHeap->Prop}:∀{l:List Oper}{E E':EF}{G G':EG}{cs:List OC}{rts:List RT},Steps P n ops l E G cs rts E' G'->K (zj E') (qf G' R)->PL P W n ops l (zj E) (qf G R) K
 |[],_,_,_,_,_,_,.nil,hk=>PL.nil hk
 |o::l,E,E',G,G',_,_,.cons (E1:=E1) (G1:=G1) h hs,hk=>by
  obtain⟨h1,h2,h3,_⟩:=h W R;have ih:=Steps.seq hW hR hs hk;rcases h1 (zj E) (qf G R) (z4z hW hR E G) (λ_ _=>rfl) (λ_ _=>rfl)with⟨hw,hpe⟩|⟨hw,hd,hp,hws⟩
  ·refine PL.cons hw (PE.mono hpe λp H'⟨e1,e2⟩=>?_);rw[e1,e2,<- h2,<- h3];exact ih
  ·refine PL.skip hw hd ?_;rw[<- hp,<- h2];rw[hws]at h3;rw[show qf G R=qf G1 R from h3.symm];exact ih
theorem ziq{β:Type}(hsy:zpk P sy){ops:Array Oper}{rid nx:Nat}{k:EF->EG->List RT->Option β}{r:β}:∀(l:List Oper)(i:Nat)(E:EF)(G:EG)(acc:List RT),Zn sy ctx n ops rid nx l i E G acc k=some r->∃cs rts E' G',Steps P n ops l E G cs rts E' G'/\k E' G' (acc++rts)=some r/\∀{γ:Type}(k2:EF->EG->List RT->Option γ),Zn sy ctx n ops rid nx l i E G acc k2=k2 E' G' (acc++rts)
 |[],i,E,G,acc,h=>⟨[],[],E,G,.nil,by simpa only [Zn,weq]using h,λk2=>by simp only[Zn,weq]⟩
 |o::l,i,E,G,acc,h=>by
  obtain⟨E',G',rt,hout,h,hu⟩:=z66 hsy h;obtain⟨c,hc⟩:=hout.step;obtain⟨cs,rts,E2,G2,h1,h2,h3⟩:=ziq hsy l (i+1) E' G' _ h;exact⟨c::cs,rt::rts,E2,G2,.cons hc h1,by simpa using h2,λk2=>by rw[hu,h3];simp⟩
def ocF(cs:List OC)(m:Nat):OC:=cs.getD m ⟨.unk,[]⟩
def rtF(rts:List RT)(m:Nat):RT:=rts.getD m ⟨[],[]⟩
theorem zy5{ops:Array Oper}{oc:Nat->OC}{F0:PFrame}{i:Nat}{o:Oper}(ho:ops[i]?=some o):fAt ops oc F0 (λ_=>true) (i+1)=(fAt ops oc F0 (λ_=>true) i).put o.dst (oc i).p:=by
 funext t;show(if(true && zmj ops i t)=true then(oc i).p else fAt ops oc F0 (λ_=>true) i t)=_;unfold PFrame.put zmj;rw[ho];simp only[wfp,wgw];cases o.dst with
 |none=>simp
 |some d=>
  simp only[we6];by_cases e:d=t
  ·subst e;simp
  ·rw[if_neg e,if_neg];intro hb;exact e (wd9 hb)
theorem z0y{oc:Nat->OC}{H0:PHeap}{i:Nat}:hAt oc H0 (λ_=>true) (i+1)=zw (hAt oc H0 (λ_=>true) i) (oc i).ws:=by
 funext k;rw[zf8];show(if(true && ids (oc i).ws k)=true then zdu (oc i).ws k else hAt oc H0 (λ_=>true) i k)=_;simp only[wgw]
theorem Steps.at{ops:Array Oper}{F0:PFrame}{H0:PHeap}{oc:Nat->OC}{rtf:Nat->RT}:∀{l:List Oper}{E E':EF}{G G':EG}{cs:List OC}{rts:List RT}(i:Nat),Steps P n ops l E G cs rts E' G'->(∀m o,l[m]?=some o->ops[i+m]?=some o)->(∀m c,cs[m]?=some c->oc (i+m)=c)->(∀m rt,rts[m]?=some rt->rtf (i+m)=rt) ->
  zj E=fAt ops oc F0 (λ_=>true) i->qf G R=hAt oc H0 (λ_=>true) i ->
  (∀m o,l[m]?=some o->∀W F H,FlW W F H->(∀t∈o.looksAt ops,F t=fAt ops oc F0 (λ_=>true) (i+m) t)->(∀k,((∃id∈(rtf (i+m)).rd,k=2*id)\/ids (oc (i+m)).ws k=true)->H k=hAt oc H0 (λ_=>true) (i+m) k)->zmw P W n ops o F H (oc (i+m))) /\
  (∀m o,l[m]?=some o->∀k,ids (oc (i+m)).ws k=true->∃id∈(rtf (i+m)).tc,k=2*id) /\
  zj E'=fAt ops oc F0 (λ_=>true) (i+l.length)/\qf G' R=hAt oc H0 (λ_=>true) (i+l.length) /\
  ∀m,m<l.length->Fl (oc (i+m)).p/\∀k,FlB (zdu (oc (i+m)).ws k)
 |[],_,_,_,_,_,_,i,.nil,_,_,_,hF,hH=>⟨λm o h=>by simp at h,λm o h=>by simp at h,hF,hH,λm h=>by simp at h⟩
 |o::l,E,E',G,G',_,_,i,.cons (c:=c) (rt:=rt) (E1:=E1) (G1:=G1) h hs,hl,hc,hr,hF,hH=>by
  have hoc:oc i=c:=hc 0 c rfl;have hrt:rtf i=rt:=hr 0 rt rfl;have ho:ops[i]?=some o:=hl 0 o rfl;have e:∀m,i+(m+1)=i+1+m:=λm=>by omega
  obtain⟨k1,k2,k3,k4,k5⟩:=Steps.at (i+1) hs (λm o' hm=>by rw[<- e];exact hl (m+1) o' (by simpa using hm)) (λm c' hm=>by rw[<- e];exact hc (m+1) c' (by simpa using hm)) (λm r' hm=>by rw[<- e];exact hr (m+1) r' (by simpa using hm))
   (by rw[zy5 ho,<- hF,hoc];exact(h ⟨default,⟨λ_=>False,0⟩,wgm _,λ_=> .unk,λ_=>undef⟩ R).2.1) (by rw[z0y,<- hH,hoc];exact(h ⟨default,⟨λ_=>False,0⟩,wgm _,λ_=> .unk,λ_=>undef⟩ R).2.2.1)
  refine⟨λm o' hm=>?_,λm o' hm=>?_,by rw[we2,e];exact k3,by rw[we2,e];exact k4,λm hm=>?_⟩
  ·cases m with
   |zero=>
    simp only[wge,we6]at hm;subst hm;intro W F H hfl h1 h2;simp only[wfu]at h1 h2⊢;rw[hoc]at h2⊢;rw[hrt]at h2;exact(h W R).1 F H hfl (λt ht=>by rw[h1 t ht,hF]) λk hk=>by rw[h2 k hk,hH]
   |succ m=>rw[e];exact k1 m o' (by simpa using hm)
  ·cases m with
   |zero=>
    simp only[wfu];rw[hoc,hrt];exact(h ⟨default,⟨λ_=>False,0⟩,wgm _,λ_=> .unk,λ_=>undef⟩ R).2.2.2.1
   |succ m=>rw[e];exact k2 m o' (by simpa using hm)
  ·cases m with
   |zero=>
    simp only[wfu];rw[hoc];exact(h ⟨default,⟨λ_=>False,0⟩,wgm _,λ_=> .unk,λ_=>undef⟩ R).2.2.2.2
   |succ m=>rw[e];exact k5 m (by simpa using hm)
theorem Steps.len{ops:Array Oper}:∀{l:List Oper}{E E':EF}{G G':EG}{cs:List OC}{rts:List RT},Steps P n ops l E G cs rts E' G'->cs.length=l.length/\rts.length=l.length
 |[],_,_,_,_,_,_,.nil=>⟨rfl,rfl⟩
 |_::_,_,_,_,_,_,_,.cons h hs=>by
  obtain⟨h1,h2⟩:=hs.len;exact⟨by simp[h1],by simp[h2]⟩
def zfy(l:List Nat)(x:Nat):Bool:=l.any (Nat.beq x)
def zic(a b:List Nat):Bool:=a.any (zfy b)
theorem jdf{l:List Nat}{x:Nat}(h:x∈l):zfy l x=true:=wgq.2 ⟨x,h,wg8 x⟩
theorem Jc{a b:List Nat}{x:Nat}(h1:x∈a)(h2:x∈b):zic a b=true:=wgq.2 ⟨x,h1,jdf h2⟩
def z7b(o:Oper):List Nat:=match o.dst with
 |some d=>[d]
 |none=>[]
def zzr(ops:Array Oper)(oi oj:Oper)(ri rj:RT):Bool:=zic (z7b oi) (z7b oj) ||zic (z7b oi) (oj.looksAt ops) ||zic (z7b oj) (oi.looksAt ops) ||zic ri.tc rj.tc ||zic ri.tc rj.rd ||zic rj.tc ri.rd
def zxw(ops:Array Oper)(bits:Nat)(oj:Oper)(rj:RT):Nat->List Oper->List RT->Bool
 |i,oi::l,ri::rts=>(Nat.testBit bits i || !(zzr ops oi oj ri rj)) && zxw ops bits oj rj (i+1) l rts
 |_,_,_=>true
def zv8(ops:Array Oper)(anc:List Nat)(pre:List Oper)(prt:List RT):List Oper->List RT->Bool
 |o::l,rt::rts=>zxw ops (anc.getD pre.length 0) o rt 0 pre prt && zv8 ops anc (pre++[o]) (prt++[rt]) l rts
 |_,_=>true
def je5:Nat->List Oper->Bool
 |_,[]=>true
 |j,o::l=>o.after.toList.all (λe=>!(Region.binds .any e) ||Nat.blt e.on j) && je5 (j+1) l
def zqz(ops:Array Oper)(rts:List RT):Bool:=je5 0 ops.toList && zv8 ops (jdd ops.toList []) [] [] ops.toList rts
theorem znj{ops:Array Oper}{bits:Nat}{oj:Oper}{rj:RT}:∀{l:List Oper}{rts:List RT}{i:Nat},zxw ops bits oj rj i l rts=true->∀m oi ri,l[m]?=some oi->rts[m]?=some ri->zzr ops oi oj ri rj=true->Nat.testBit bits (i+m)=true
 |[],_,_,_,m,oi,ri,h1,_,_=>by simp at h1
 |_::_,[],_,_,m,oi,ri,_,h2,_=>by simp at h2
 |o::l,rt::rts,i,h,m,oi,ri,h1,h2,hm=>by
  simp only[zxw,wd8,wft,wg5]at h;cases m with
  |zero=>
   simp at h1 h2;subst h1;subst h2;rcases h.1 with h3|h3
   ·exact h3
   ·rw[hm]at h3;cases h3
  |succ m=>
   have:=znj h.2 m oi ri (by simpa using h1) (by simpa using h2) hm;rw[<- this];congr 1;omega
theorem zgj{ops:Array Oper}{anc:List Nat}:∀{l:List Oper}{rts:List RT}{pre:List Oper}{prt:List RT},pre.length=prt.length->zv8 ops anc pre prt l rts=true->∀m oj rj,l[m]?=some oj->rts[m]?=some rj->∀i oi ri,i<pre.length+m->(pre++l)[i]?=some oi->(prt++rts)[i]?=some ri->zzr ops oi oj ri rj=true->Nat.testBit (anc.getD (pre.length+m) 0) i=true
 |[],_,_,_,_,_,m,oj,rj,h1,_,_,_,_,_,_,_,_=>by simp at h1
 |_::_,[],_,_,_,_,m,oj,rj,_,h2,_,_,_,_,_,_,_=>by simp at h2
 |o::l,rt::rts,pre,prt,hl,h,m,oj,rj,h1,h2,i,oi,ri,hi,ho,hr,hm=>by
  simp only[zv8,wd8]at h;cases m with
  |zero=>
   simp at h1 h2;subst h1;subst h2;simp only[wfu]at hi⊢;have:=znj h.1 i oi ri (by rw[weg hi]at ho;exact ho) (by rw[weg (by omega)]at hr;exact hr) hm;simpa using this
  |succ m=>
   have:=zgj (pre:=pre++[o]) (prt:=prt++[rt]) (by simp[hl]) h.2 m oj rj (by simpa using h1) (by simpa using h2) i oi ri (by simp;omega) (by simpa using ho) (by simpa using hr) hm;rw[weo,wez]at this;rw[show pre.length+(m+1)=pre.length+1+m by omega];exact this
theorem zlp:∀{l:List Oper}{j:Nat},je5 j l=true->∀m o,l[m]?=some o->∀e∈o.after,Region.binds .any e=true->e.on<j+m
 |[],_,_,m,o,h1,_,_,_=>by simp at h1
 |o::l,j,h,m,o',h1,e,he,hb=>by
  simp only[je5,wd8,we0]at h;cases m with
  |zero=>
   simp at h1;subst h1;have:=h.1 e (by simpa using he);rw[hb]at this;simpa [wg1]using this
  |succ m=>
   have:=zlp h.2 m o' (by simpa using h1) e he hb;omega
theorem zds{ops:Array Oper}{i t:Nat}{o:Oper}(ho:ops[i]?=some o)(h:zmj ops i t=true):t∈z7b o:=by
 unfold zmj at h;rw[ho]at h;simp only[wfp]at h;unfold z7b;split at h
 ·rename_i d hd;have e:=wd9 h
  first|(rw[hd,e];simp;done)|(rw[e];simp)
 ·cases h
theorem Steps.drawn(hW:∀i,Fl (W.G i))(hR:RFl R)(hm:P.follows .mixedOrders=true){ops:Array Oper}{id:Nat}{E E':EF}{G G':EG}{cs:List OC}{rts:List RT}(hs:Steps P n ops ops.toList E G cs rts E' G')(hdo:zqz ops rts=true):PC P W n (.region id ops true) (zj E) (qf G R) λe F' H'=>e=.normal/\F'=zj E'/\H'=qf G' R:=by
 unfold zqz at hdo;simp only[wd8]at hdo;obtain⟨hfw,hdr⟩:=hdo;obtain⟨l1,l2⟩:=hs.len;have hget:∀(m:Nat)o,ops.toList[m]?=some o->ops[0+m]?=some o:=λm o h=>by rw[wfa];simpa using h
 obtain⟨k1,k2,k3,k4,k5⟩:=Steps.at (R:=R) (F0:=zj E) (H0:=qf G R) (oc:=ocF cs) (rtf:=rtF rts) 0 hs hget (λm c hc=>by unfold ocF;rw[wfa,we8,hc];rfl) (λm rt hc=>by unfold rtF;rw[wfa,we8,hc];rfl) rfl rfl;simp only[wfa]at k1 k2 k3 k4 k5;have hanc:=zx6 (ops:=ops) ops.toList [] (λk o hk=>by simpa using hk) (λk i hk=>by simp at hk);refine wb7 (oc:=ocF cs) (rt:=λm k=>(rtF rts m).rd.any λid=>Nat.beq (2*id) k) (Inv:=λF H=>FlW W F H) (λS=>⟨hW,λt=>?_,λk=>?_⟩) hm (λi o ho F H hfl h1 h2=>k1 i o (by simpa using ho) W F H hfl h1 λk hk=>h2 k ?_) (λi j hij hj hmt=>?_) (λj o ho e he hb=>?_) ⟨rfl,?_,?_⟩
 ·rcases zrx (D:=zmj ops) (c:=λm _=>(ocF cs m).p) (s0:=zj E) (S:=S) (k:=t) ops.size with e|⟨m,hm,_,e⟩
  ·unfold fAt;rw[e];exact zl6 _
  ·unfold fAt;rw[e];exact(k5 m (by simpa using hm)).1
 ·rcases zrx (D:=λm k=>ids (ocF cs m).ws k) (c:=λm k=>zdu (ocF cs m).ws k) (s0:=qf G R) (S:=S) (k:=k) ops.size with e|⟨m,hm,_,e⟩
  ·unfold hAt;rw[e];exact(z4z hW hR E G).h k
  ·unfold hAt;rw[e];exact(k5 m (by simpa using hm)).2 k
 ·rcases hk with⟨id,h3,rfl⟩|h3
  ·exact .inl (wgq.2 ⟨id,h3,by simp⟩)
  ·exact .inr h3
 ·obtain⟨oj,hoj⟩:∃o,ops[j]?=some o:=⟨_,wet hj⟩
  obtain⟨oi,hoi⟩:∃o,ops[i]?=some o:=⟨_,wet (show i<ops.size by omega)⟩
  have hlen:ops.toList.length=ops.size:=by simp
  have hrj:rts[j]?=some (rtF rts j):=by unfold rtF;rw[we8,wd2 (by omega)];rfl
  have hri:rts[i]?=some (rtF rts i):=by unfold rtF;rw[we8,wd2 (by omega)];rfl
  refine hanc j i ?_;have key:=zgj (pre:=[]) (prt:=[]) rfl hdr j _ _ (by simpa using hoj) hrj i _ _ (by simpa using hij) (by simpa using hoi) (by simpa using hri);simp only[wgp,wfa]at key;refine key ?_;have rdm:∀m k,((rtF rts m).rd.any λid=>Nat.beq (2*id) k)=true->∃id∈(rtF rts m).rd,k=2*id:=λm k h=>by
   obtain⟨id,h1,h2⟩:=wgq.1 h;exact⟨id,h1,(wd9 h2).symm⟩
  unfold zzr;simp only[wft];rcases hmt with⟨t,h1,h2⟩|⟨t,h1,o,h2,h3⟩|⟨k,h1,h2⟩|⟨k,h1,h2⟩
  ·have m1:=zds hoi h1;rcases h2 with h2|⟨o,h2,h3⟩
   ·exact .inl (.inl (.inl (.inl (.inl (Jc m1 (zds hoj h2))))))
   ·rw[hoj]at h2;cases h2;exact .inl (.inl (.inl (.inl (.inr (Jc m1 h3)))))
  ·rw[hoi]at h2;cases h2;exact .inl (.inl (.inl (.inr (Jc (zds hoj h1) h3))))
  ·obtain⟨a,a1,a2⟩:=k2 i _ (by simpa using hoi) k h1;rcases h2 with h2|h2
   ·obtain⟨c,c1,c2⟩:=k2 j _ (by simpa using hoj) k h2;have:a=c:=by omega
    subst this;exact .inl (.inl (.inr (Jc a1 c1)))
   ·obtain⟨c,c1,c2⟩:=rdm j k h2;have:a=c:=by omega
    subst this;exact .inl (.inr (Jc a1 c1))
  ·obtain⟨a,a1,a2⟩:=k2 j _ (by simpa using hoj) k h1;obtain⟨c,c1,c2⟩:=rdm i k h2;have:a=c:=by omega
   subst this;exact .inr (Jc a1 c1)
 ·have:=zlp hfw j o (by simpa using ho) e he hb;omega
 ·rw[k3];simp
 ·rw[k4];simp
end
inductive HK where
 |meet (h:LH)
 |unroll (m:Nat)
abbrev EK(β:Type):=Exit->Nat->EF->EG->Option β
def z2t{β:Type}(B:Nat->Nat->EF->EG->EK β->Option β)(k:EK β):Nat->Nat->Nat->EF->EG->Option β
 |0,_,_,_,_=>none
 |m+1,p,nx,E,G=>B (2*p) nx E G λe nx' E' G'=>match e with
  |.normal=>z2t B k m (2*p+1) nx' E' G'
  |e=>k e nx' E' G'
section
variable(sy:SyT)(fuel:Nat)(hint:Nat → Option HK)(ctx b n:Nat){β:Type}
def z0m(id:Nat)(ops:Array Oper)(draw:Bool)(nx:Nat)(E:EF)(G:EG)(k:EF->EG->Option β):Option β:=match draw with
 |false=>Zn sy ctx n ops id nx ops.toList 0 E G [] λE' G' _=>k E' G'
 |true=>Zn sy ctx n ops id nx ops.toList 0 E G [] λE' G' acc=>match zqz ops acc with
  |true=>k E' G'
  |false=>none
def qp:Code->Nat->Nat->EF->EG->EK β->Option β
 |.skip,_,nx,E,G,k=>k .normal nx E G
 |.ret,_,nx,E,G,k=>k .ret nx E G
 |.exit id,_,nx,E,G,k=>k (.exit id) nx E G
 |.seq x y,p,nx,E,G,k=>match hint p with
  |some (.meet h)=>J (λt=>qp y (2*p+1) h.nx (unE h (Je h.tys t)) (unG h (Je h.tys t)) k) λj=>qp x (2*p) nx E G λe nx' E' G'=>match e with
   |.normal=>meet b h j E' G'
   |e=>k e nx' E' G'
  |_=>qp x (2*p) nx E G λe nx' E' G'=>match e with
   |.normal=>qp y (2*p+1) nx' E' G' k
   |e=>k e nx' E' G'
 |.cond c x y,p,nx,E,G,k=>match evE E c with
  |.c (.bool true)=>qp x (2*p) nx E G k
  |.c (.bool false)=>qp y (2*p+1) nx E G k
  |.v ⟨.bool,c⟩=>ifB c (qp x (2*p) nx E G k) (qp y (2*p+1) nx E G k)
  |_=>none
 |.block id c,p,nx,E,G,k=>match hint p with
  |some (.meet h)=>J (λt=>k .normal h.nx (unE h (Je h.tys t)) (unG h (Je h.tys t))) λj=>qp c (2*p) nx E G λe nx' E' G'=>match e with
   |.exit id'=>if id'=id then meet b h j E' G' else k (.exit id') nx' E' G'
   |.normal=>meet b h j E' G'
   |e=>k e nx' E' G'
  |_=>qp c (2*p) nx E G λe nx' E' G'=>match e with
   |.exit id'=>if id'=id then k .normal nx' E' G' else k (.exit id') nx' E' G'
   |e=>k e nx' E' G'
 |.loop c,p,nx,E,G,k=>match hint p with
  |none=>none
  |some (.unroll m)=>z2t (qp c) k m p nx E G
  |some (.meet h)=>meet b h (λt=>jm (λt next=>qp c (2*p) h.nx (unE h (Je h.tys t)) (unG h (Je h.tys t)) λe nx' E' G'=>match e with
   |.normal=>meet b h next E' G'
   |e=>k e nx' E' G') fuel t) E G
 |.region id ops draw,p,nx,E,G,k=>match hint p with
  |some (.meet h)=>J (λt=>k .normal h.nx (unE h (Je h.tys t)) (unG h (Je h.tys t))) λj=>z0m sy ctx n id ops draw nx E G λE' G'=>meet b h j E' G'
  |_=>z0m sy ctx n id ops draw nx E G λE' G'=>k .normal (nx+NB*ops.toList.length) E' G'
 |.scope c,p,nx,E,G,k=>qp c (2*p) nx E G λe nx' E' G'=>match e with
  |.goto _=>none
  |e=>k e nx' E' G'
 |.label _,_,nx,E,G,k=>k .normal nx E G
 |_,_,_,_,_,_=>none
end
def OutC(P:Program)(b n:Nat)(c:Code)(E:EF)(G:EG)(e:Exit)(E':EF)(G':EG):Prop:=
 ∀(W:Env)(R:PHeap),GhOk b W->RestOk b R->PC P W n c (zj E) (qf G R) λe2 F' H'=>e2=e/\F'=zj E'/\H'=qf G' R
def Ren(P:Program)(b n:Nat)(E:EF)(G:EG)(E':EF)(G':EG):Prop:=
 ∀(W:Env)(R:PHeap),GhOk b W->RestOk b R->∀V a w,Rel P W n (zj E) (qf G R) V a w->∃V',Rel P W n (zj E') (qf G' R) V' a w
theorem Ren.refl{P:Program}{b n:Nat}{E:EF}{G:EG}:Ren P b n E G E G:=λW R _ _ V a w h=>⟨V,h⟩
inductive LP(P:Program)(b n:Nat)(c:Code)(e:Exit)(E':EF)(G':EG):Nat->EF->EG->Prop
 |last {E:EF}{G:EG}(he:e ≠ .normal) (h:OutC P b n c E G e E' G'):LP P b n c e E' G' 0 E G
 |round {m:Nat}{E E1 E2:EF}{G G1 G2:EG}(h:OutC P b n c E G .normal E1 G1) (hr:Ren P b n E1 G1 E2 G2) (hs:LP P b n c e E' G' m E2 G2):LP P b n c e E' G' (m+1) E G
section
variable{P:Program}{W:Env}{n b ctx:Nat}{R:PHeap}{sy:SyT}{fuel:Nat}{hint:Nat → Option HK}{β:Type}
theorem wdx{c:Code}{F:PFrame}{H:PHeap}{Q Q':Exit->PFrame->PHeap->Prop}(h:PC P W n c F H Q)(hq:∀e F H,Q e F H->∀V a w,Rel P W n F H V a w->∃F' H' V',Q' e F' H'/\Rel P W n F' H' V' a w):PC P W n c F H Q':=λV a w Q2 hr hQ=>h V a w Q2 hr λe F' H' V' a' w' hk hr'=>by
 obtain⟨F2,H2,V2,h1,h2⟩:=hq e F' H' hk V' a' w' hr';exact hQ e F2 H2 V2 a' w' h1 h2
theorem Vc{h:LH}{j:DL h.tys->Option β}{E:EF}{G:EG}{r:β}(hm:meet b h j E G=some r):∃t,jal b h E G=some t/\j t=some r/\∀{γ:Type}(j2:DL h.tys->Option γ),meet b h j2 E G=j2 t:=by
 unfold meet at hm;cases hp:jal b h E G with
 |none=>rw[hp]at hm;cases hm
 |some t=>rw[hp]at hm;exact⟨t,rfl,hm,λj2=>by unfold meet;rw[hp]⟩
theorem zbk{h:LH}{E:EF}{G:EG}{t:DL h.tys}(hp:jal b h E G=some t):Ren P b n E G (unE h (Je h.tys t)) (unG h (Je h.tys t)):=λW R hg hR V a w hr=>by
 unfold jal at hp;split at hp
 ·rename_i r hl;rw[z4v hp];exact jb9 hl hg hR hr
 ·cases hp
theorem OutC.ren{c:Code}{E E1 E2:EF}{G G1 G2:EG}{e:Exit}(h:OutC P b n c E G e E1 G1)(hr:Ren P b n E1 G1 E2 G2):OutC P b n c E G e E2 G2:=λW R hg hR=>
 wdx (h W R hg hR) λe2 F' H'⟨h1,h2,h3⟩ V a w hrel=>by
  subst h1;subst h2;subst h3;obtain⟨V',h5⟩:=hr W R hg hR V a w hrel;exact⟨_,_,V',⟨rfl,rfl,rfl⟩,h5⟩
theorem OutC.into{c:Code}{E E0 E1:EF}{G G0 G1:EG}{e:Exit}(hr:Ren P b n E0 G0 E G)(h:OutC P b n c E G e E1 G1):OutC P b n c E0 G0 e E1 G1:=λW R hg hR V a w Q' hrel hQ=>by
 obtain⟨V',h3⟩:=hr W R hg hR V a w hrel;exact h W R hg hR V' a w Q' h3 hQ
theorem OutC.seq{x y:Code}{E E1 E2:EF}{G G1 G2:EG}{e:Exit}(h1:OutC P b n x E G .normal E1 G1)(h2:OutC P b n y E1 G1 e E2 G2):OutC P b n (.seq x y) E G e E2 G2:=λW R hg hR=>
 PC.seq λK hK=>PC.mono (h1 W R hg hR) λe' F H⟨a1,a2,a3⟩=>by
  subst a1;subst a2;subst a3;exact hK _ _ (h2 W R hg hR)
theorem OutC.seqX{x y:Code}{E E1:EF}{G G1:EG}{e:Exit}(h1:OutC P b n x E G e E1 G1)(he:e ≠ .normal):OutC P b n (.seq x y) E G e E1 G1:=λW R hg hR=>
 PC.seq λK hK=>PC.mono (h1 W R hg hR) λe' F H⟨a1,a2,a3⟩=>by
  subst a1;subst a2;subst a3;cases e' with
  |normal=>exact absurd rfl he
  |_=>exact⟨rfl,rfl,rfl⟩
theorem OutC.block{id:Nat}{c:Code}{E E1:EF}{G G1:EG}{e:Exit}(h:OutC P b n c E G e E1 G1):OutC P b n (.block id c) E G (match e with
  |.exit id'=>if id'=id then .normal else .exit id'
  |e=>e) E1 G1:=λW R hg hR=>PC.block (PC.mono (h W R hg hR) λe' F H⟨a1,a2,a3⟩=>by
 subst a1;subst a2;subst a3;cases e' with
 |exit id'=>
  simp only[zr0];by_cases e:id'=id
  ·rw[if_pos e,if_pos e];simp
  ·rw[if_neg e,if_neg e];simp
 |_=>exact⟨rfl,rfl,rfl⟩)
theorem OutC.loop{c:Code}{E E':EF}{G G':EG}{e:Exit}{m:Nat}(h:LP P b n c e E' G' m E G):OutC P b n (.loop c) E G e E' G':=λW R hg hR=>by
 refine PC.loop (λm F H=>∃E G,F=zj E/\H=qf G R/\LP P b n c e E' G' m E G) (m:=m) ⟨E,G,rfl,rfl,h⟩ λm F H⟨E,G,h1,h2,hI⟩=>?_;subst h1;subst h2;cases hI with
 |last he h=>
  refine PC.mono (h W R hg hR) λe2 F' H'⟨a1,a2,a3⟩=>?_;subst a1;subst a2;subst a3;cases e2 with
  |normal=>exact absurd rfl he
  |_=>exact⟨rfl,rfl,rfl⟩
 |round h hr hs=>
  refine PC.mono (h.ren hr W R hg hR) λe2 F' H'⟨a1,a2,a3⟩=>?_;subst a1;subst a2;subst a3;exact⟨_,wgz _,_,_,rfl,rfl,hs⟩
theorem OutC.cond{q:Operand}{x y:Code}{E E1:EF}{G G1:EG}{e:Exit}{t:Bool}(hc:evP (zj E) q=.u (.bool t)) (h:OutC P b n (match t with
  |true=>x
  |false=>y) E G e E1 G1):OutC P b n (.cond q x y) E G e E1 G1:=λW R hg hR=>
 PC.cond hc (λe=>by subst e;exact h W R hg hR) (λe=>by subst e;exact h W R hg hR)
theorem OutC.scope{c:Code}{E E1:EF}{G G1:EG}{e:Exit}(h:OutC P b n c E G e E1 G1)(he:∀l,e ≠ .goto l):OutC P b n (.scope c) E G e E1 G1:=λW R hg hR=>
 PC.scope (PC.mono (h W R hg hR) λe2 F H⟨a1,a2,a3⟩=>by
  subst a1;subst a2;subst a3;cases e2<;>first|exact⟨rfl,rfl,rfl⟩|exact absurd rfl (he _))
theorem GhOk.fl(h:GhOk b W):∀i,Fl (W.G i):=λi=>(h i).fl
theorem RestOk.fl(h:RestOk b R):RFl R:=λi bd hb c hc=>(h i bd hb c hc).fl
theorem z49(hsy:zpk P sy)(hm:P.follows .mixedOrders=true){id:Nat}{ops:Array Oper}{draw:Bool}{nx:Nat}{E:EF}{G:EG}{k:EF->EG->Option β}{r:β}(h:z0m sy ctx n id ops draw nx E G k=some r):
  ∃E' G',k E' G'=some r/\(∀{γ:Type}(k2:EF->EG->Option γ),z0m sy ctx n id ops draw nx E G k2=k2 E' G')/\OutC P b n (.region id ops draw) E G .normal E' G':=by
 cases draw with
 |false=>
  simp only[z0m]at h;obtain⟨cs,rts,E',G',hs,hk,hu⟩:=ziq hsy _ _ _ _ _ h;refine⟨E',G',hk,λk2=>by simp only[z0m];exact hu _,λW R hg hR=>?_⟩;obtain⟨l⟩:=ops;exact PC.region (Steps.seq (GhOk.fl hg) (RestOk.fl hR) hs ⟨rfl,rfl,rfl⟩)
 |true=>
  simp only[z0m]at h;obtain⟨cs,rts,E',G',hs,hk,hu⟩:=ziq hsy _ _ _ _ _ h;simp only[wfx]at hk hu;split at hk<;>try (cases hk;done)
  rename_i hdo;exact⟨E',G',hk,λk2=>by simp only[z0m];rw[hu];simp only[hdo],λW R hg hR=>Steps.drawn (GhOk.fl hg) (RestOk.fl hR) hm hs hdo⟩
def Ends(P:Program)(sy:SyT)(fuel:Nat)(hint:Nat->Option HK)(ctx b n:Nat){β:Type}(c:Code)(p nx:Nat)(E:EF)(G:EG)(k:EK β)(r:β):Prop:=
 ∃e nx' E' G',k e nx' E' G'=some r/\(∀{γ:Type}(k2:EK γ),qp sy fuel hint ctx b n c p nx E G k2=k2 e nx' E' G')/\OutC P b n c E G e E' G'
theorem ze(hm:P.follows .mixedOrders=true)(hsy:zpk P sy):∀(c:Code)(p nx:Nat){β:Type}(E:EF)(G:EG)(k:EK β)(r:β),qp sy fuel hint ctx b n c p nx E G k=some r->Ends P sy fuel hint ctx b n c p nx E G k r
 |.skip,p,nx,β,E,G,k,r,h=>⟨.normal,nx,E,G,by simpa only [qp]using h,λk2=>by simp only[qp],λW R _ _=>PC.skip ⟨rfl,rfl,rfl⟩⟩
 |.ret,p,nx,β,E,G,k,r,h=>⟨.ret,nx,E,G,by simpa only [qp]using h,λk2=>by simp only[qp],λW R _ _=>PC.ret ⟨rfl,rfl,rfl⟩⟩
 |.exit id,p,nx,β,E,G,k,r,h=>⟨.exit id,nx,E,G,by simpa only [qp]using h,λk2=>by simp only[qp],λW R _ _=>PC.exit ⟨rfl,rfl,rfl⟩⟩
 |.label l,p,nx,β,E,G,k,r,h=>⟨.normal,nx,E,G,by simpa only [qp]using h,λk2=>by simp only[qp],λW R _ _=>PC.label ⟨rfl,rfl,rfl⟩⟩
 |.scope c,p,nx,β,E,G,k,r,h=>by
  simp only[qp]at h;obtain⟨e,nx',E',G',hk,hu,ho⟩:=ze hm hsy c (2*p) nx E G _ r h;have he:∀l,e ≠ .goto l:=λl e1=>by subst e1;cases hk
  refine⟨e,nx',E',G',?_,λk2=>?_,ho.scope he⟩
  ·cases e<;>first|exact hk|exact absurd rfl (he _)
  ·simp only[qp];rw[hu];cases e<;>first|rfl|exact absurd rfl (he _)
 |.seq x y,p,nx,β,E,G,k,r,h=>by
  simp only[qp]at h;split at h
  ·rename_i lh hp;unfold J at h;obtain⟨e,nx',E',G',hk,hu,ho⟩:=ze hm hsy x (2*p) nx E G _ r h;cases e with
   |normal=>
    obtain⟨t,g1,g2,g3⟩:=Vc hk;obtain⟨e2,nx2,E2,G2,hk2,hu2,ho2⟩:=ze hm hsy y _ _ _ _ k r g2;exact⟨e2,nx2,E2,G2,hk2,λk2=>by simp only[qp,hp,J];rw[hu];simp only;rw[g3];exact hu2 k2,(ho.ren (zbk g1)).seq ho2⟩
   |_=>exact⟨_,nx',E',G',hk,λk2=>by simp only[qp,hp,J];rw[hu],ho.seqX (λe=>by cases e)⟩
  ·rename_i hp;obtain⟨e,nx',E',G',hk,hu,ho⟩:=ze hm hsy x (2*p) nx E G _ r h;cases e with
   |normal=>
    obtain⟨e2,nx2,E2,G2,hk2,hu2,ho2⟩:=ze hm hsy y _ nx' E' G' k r hk;refine⟨e2,nx2,E2,G2,hk2,λk2=>?_,ho.seq ho2⟩;rw[qp];split
    ·rename_i lh hp';exact absurd hp' (hp lh)
    ·rw[hu];exact hu2 k2
   |_=>
    refine⟨_,nx',E',G',hk,λk2=>?_,ho.seqX (λe=>by cases e)⟩;rw[qp];split
    ·rename_i lh hp';exact absurd hp' (hp lh)
    ·rw[hu]
 |.cond c x y,p,nx,β,E,G,k,r,h=>by
  simp only[qp]at h;split at h
  ·rename_i hc;obtain⟨e,nx',E',G',hk,hu,ho⟩:=ze hm hsy x (2*p) nx E G k r h;exact⟨e,nx',E',G',hk,λk2=>by simp only[qp,hc];exact hu k2,OutC.cond (t:=true) (by rw[zw8,hc];simp only[TS.den];rfl) ho⟩
  ·rename_i hc;obtain⟨e,nx',E',G',hk,hu,ho⟩:=ze hm hsy y (2*p+1) nx E G k r h;exact⟨e,nx',E',G',hk,λk2=>by simp only[qp,hc];exact hu k2,OutC.cond (t:=false) (by rw[zw8,hc];simp only[TS.den];rfl) ho⟩
  ·rename_i q hc;have e1:evP (zj E) c=.u (.bool q):=by rw[zw8,hc];simp only[TS.den];rfl
   unfold ifB at h;split at h
   ·obtain⟨e,nx',E',G',hk,hu,ho⟩:=ze hm hsy x (2*p) nx E G k r h;exact⟨e,nx',E',G',hk,λk2=>by simp only[qp,hc,ifB];exact hu k2,OutC.cond e1 ho⟩
   ·obtain⟨e,nx',E',G',hk,hu,ho⟩:=ze hm hsy y (2*p+1) nx E G k r h;exact⟨e,nx',E',G',hk,λk2=>by simp only[qp,hc,ifB];exact hu k2,OutC.cond e1 ho⟩
  ·cases h
 |.block id c,p,nx,β,E,G,k,r,h=>by
  simp only[qp]at h;split at h
  ·rename_i lh hp;unfold J at h;obtain⟨e,nx',E',G',hk,hu,ho⟩:=ze hm hsy c (2*p) nx E G _ r h;cases e with
   |exit id'=>
    simp only at hk hu;by_cases e:id'=id
    ·rw[if_pos e]at hk;obtain⟨t,g1,g2,g3⟩:=Vc hk;refine⟨_,_,_,_,g2,λk2=>by simp only[qp,hp,J];rw[hu];simp only;rw[if_pos e];exact g3 _,?_⟩;have:=(ho.ren (zbk g1)).block (id:=id);simp only[if_pos e]at this;exact this
    ·rw[if_neg e]at hk;refine⟨_,_,_,_,hk,λk2=>by simp only[qp,hp,J];rw[hu];simp only;rw[if_neg e],?_⟩;have:=ho.block (id:=id);simp only[if_neg e]at this;exact this
   |normal=>
    obtain⟨t,g1,g2,g3⟩:=Vc hk;exact⟨_,_,_,_,g2,λk2=>by simp only[qp,hp,J];rw[hu];exact g3 _,(ho.ren (zbk g1)).block⟩
   |_=>exact⟨_,_,_,_,hk,λk2=>by simp only[qp,hp,J];rw[hu],ho.block⟩
  ·rename_i hp;obtain⟨e,nx',E',G',hk,hu,ho⟩:=ze hm hsy c (2*p) nx E G _ r h;have un:∀{γ:Type}(k2:EK γ),qp sy fuel hint ctx b n (.block id c) p nx E G k2=match e with
    |.exit id'=>if id'=id then k2 .normal nx' E' G' else k2 (.exit id') nx' E' G'
    |e=>k2 e nx' E' G':=λ{γ}k2=>by
    rw[qp];split
    ·rename_i lh hp';exact absurd hp' (hp lh)
    ·rw[hu];cases e<;>rfl
   cases e with
   |exit id'=>
    simp only at hk un;by_cases e:id'=id
    ·rw[if_pos e]at hk;refine⟨_,_,_,_,hk,λk2=>by rw[un,if_pos e],?_⟩;have:=ho.block (id:=id);simp only[if_pos e]at this;exact this
    ·rw[if_neg e]at hk;refine⟨_,_,_,_,hk,λk2=>by rw[un,if_neg e],?_⟩;have:=ho.block (id:=id);simp only[if_neg e]at this;exact this
   |_=>exact⟨_,_,_,_,hk,λk2=>un k2,ho.block⟩
 |.loop c,p,nx,β,E,G,k,r,h=>by
  simp only[qp]at h;split at h
  ·cases h
  ·rename_i m hp;have key:∀(m p nx:Nat)(E:EF)(G:EG),z2t (qp sy fuel hint ctx b n c) k m p nx E G=some r->∃e nx' E' G' j,k e nx' E' G'=some r/\(∀{γ:Type}(k2:EK γ),z2t (qp sy fuel hint ctx b n c) k2 m p nx E G=k2 e nx' E' G')/\LP P b n c e E' G' j E G:=by
    intro m;induction m with
    |zero=>intro p nx E G h;cases h
    |succ m ih=>
     intro p nx E G h;simp only[z2t]at h;obtain⟨e,nx',E',G',hk,hu,ho⟩:=ze hm hsy c (2*p) nx E G _ r h;cases e with
     |normal=>
      obtain⟨e2,nx2,E2,G2,j,hk2,hu2,hl⟩:=ih (2*p+1) nx' E' G' hk;exact⟨e2,nx2,E2,G2,j+1,hk2,λk2=>by simp only[z2t];rw[hu];exact hu2 k2,.round ho Ren.refl hl⟩
     |_=>exact⟨_,nx',E',G',0,hk,λk2=>by simp only[z2t];rw[hu],.last (λe=>by cases e) ho⟩
   obtain⟨e,nx',E',G',j,hk,hu,hl⟩:=key m p nx E G h;exact⟨e,nx',E',G',hk,λk2=>by simp only[qp,hp];exact hu k2,OutC.loop hl⟩
  ·rename_i lh hp;obtain⟨t,g1,g2,g3⟩:=Vc h;have key:∀(m:Nat)(t:DL lh.tys),jm (λt next=>qp sy fuel hint ctx b n c (2*p) lh.nx (unE lh (Je lh.tys t)) (unG lh (Je lh.tys t)) λe nx' E' G'=>match e with
     |.normal=>meet b lh next E' G'
     |e=>k e nx' E' G') m t=some r->∃e nx' E' G' j,k e nx' E' G'=some r/\(∀{γ:Type}(k2:EK γ),jm (λt next=>qp sy fuel hint ctx b n c (2*p) lh.nx (unE lh (Je lh.tys t)) (unG lh (Je lh.tys t)) λe nx' E' G'=>match e with
     |.normal=>meet b lh next E' G'
     |e=>k2 e nx' E' G') m t=k2 e nx' E' G')/\LP P b n c e E' G' j (unE lh (Je lh.tys t)) (unG lh (Je lh.tys t)):=by
    intro m;induction m with
    |zero=>intro t h;cases h
    |succ m ih=>
     intro t h;simp only[jm]at h;obtain⟨e,nx',E',G',hk,hu,ho⟩:=ze hm hsy c (2*p) _ _ _ _ r h;cases e with
     |normal=>
      obtain⟨t',k1,k2,k3⟩:=Vc hk;obtain⟨e2,nx2,E2,G2,j,hk2,hu2,hl⟩:=ih t' k2;exact⟨e2,nx2,E2,G2,j+1,hk2,λk2=>by simp only[jm];rw[hu];simp only;rw[k3];exact hu2 k2,.round ho (zbk k1) hl⟩
     |_=>exact⟨_,nx',E',G',0,hk,λk2=>by simp only[jm];rw[hu],.last (λe=>by cases e) ho⟩
   obtain⟨e,nx',E',G',j,hk,hu,hl⟩:=key fuel t g2;exact⟨e,nx',E',G',hk,λk2=>by simp only[qp,hp];rw[g3];exact hu k2,(OutC.loop hl).into (zbk g1)⟩
 |.region id ops draw,p,nx,β,E,G,k,r,h=>by
  simp only[qp]at h;split at h
  ·rename_i lh hp;unfold J at h;obtain⟨E',G',hk,hu,ho⟩:=z49 (b:=b) hsy hm h;obtain⟨t,g1,g2,g3⟩:=Vc hk;exact⟨_,_,_,_,g2,λk2=>by simp only[qp,hp,J];rw[hu];exact g3 _,ho.ren (zbk g1)⟩
  ·rename_i hp;obtain⟨E',G',hk,hu,ho⟩:=z49 (b:=b) hsy hm h;refine⟨_,_,_,_,hk,λk2=>?_,ho⟩;rw[qp];split
   ·rename_i lh hp';exact absurd hp' (hp lh)
   ·exact hu _
 |.rangeFunc _ _ _ _,p,nx,β,E,G,k,r,h=>by simp only[qp]at h;cases h
 |.goto _,p,nx,β,E,G,k,r,h=>by simp only[qp]at h;cases h
 |.refuse _,p,nx,β,E,G,k,r,h=>by simp only[qp]at h;cases h
end
def SR.now(s:TS)(rd:List Nat):SR:=⟨Unit,true,some (),λ_=>s,λ_=>[],rd,[]⟩
def SR.dat(α:Type)(o:Option α)(s:α->TS)(rd:List Nat):SR:=⟨α,false,o,s,λ_=>[],rd,[]⟩
def SR.vx(b:Bool)(t:Ty)(x:t.D):SR:=match b with
 |true => .dat t.D (some x) (λy=> .v ⟨t,y⟩) []
 |false => .now (.v ⟨t,x⟩) []
def SR.vo(t:Ty)(o:Option t.D):SR :=.dat t.D o (λy=> .v ⟨t,y⟩) []
structure Agr(o:Oper)(E:EF)(G:EG)(rd:List Nat)(F:PFrame)(H:PHeap):Prop where
 f:∀t,Operand.tmp t∈o.op.operands->F t=(E t).den
 h:∀id,id∈rd->H (2*id)=qj (G id)
section
variable{P:Program}{o:Oper}{E:EF}{G:EG}{rd:List Nat}{F:PFrame}{H:PHeap}{W:Env}
theorem Agr.ev(h:Agr o E G rd F H){x:Operand}(hx:x∈o.op.operands):evP F x=(evE E x).den:=by
 cases x with
 |tmp t=>simp only[evP,evE];exact h.f t hx
 |const v=>simp only[evP,evE,TS.den]
 |global g=>simp only[evP,evE,TS.den]
 |func f=>simp only[evP,evE,TS.den,yk]
theorem SOk.now{s:TS}(h:∀W F H,Agr o E G rd F H->PQ P W o F H s.den):SOk P o E G (.now s rd):=
 ⟨λ_=>rfl,λx hx W n F H hfl hd hF hH=>wak hd (h W F H ⟨hF,λid hid=>hH id (.inl hid)⟩) ⟨rfl,rfl⟩⟩
theorem SOk.dat{α:Type}{op:Option α}{s:α->TS}(h:∀x,op=some x->∀W F H,Agr o E G rd F H->PQ P W o F H (s x).den):SOk P o E G (.dat α op s rd):=
 ⟨λ_=>rfl,λx hx W n F H hfl hd hF hH=>wak hd (h x hx W F H ⟨hF,λid hid=>hH id (.inl hid)⟩) ⟨rfl,rfl⟩⟩
theorem SOk.vx{b:Bool}{t:Ty}{x:t.D}(h:∀W F H,Agr o E G [] F H->PQ P W o F H (enc t x)):SOk P o E G (.vx b t x):=by
 cases b with
 |true=>exact SOk.dat λy hy W F H ha=>by cases hy;simp only[TS.den];exact h W F H ha
 |false=>exact SOk.now λW F H ha=>by simp only[TS.den];exact h W F H ha
theorem SOk.vo{t:Ty}{op:Option t.D}(h:∀x,op=some x->∀W F H,Agr o E G [] F H->PQ P W o F H (enc t x)):SOk P o E G (.vo t op):=
 SOk.dat λy hy W F H ha=>by simp only[TS.den];exact h y hy W F H ha
theorem PQ.ref{p q:PV}(h:PQ P W o F H p)(hr:Ref p q):PQ P W o F H q:=λV a w hh hs=>
 Oper.wp_mono (λa' w'⟨v,h1,h2,h3⟩=>⟨v,h1,hr _ _ _ _ _ h2,h3⟩) (h V a w hh hs)
def ofCx:(t:Ty)->Value->Option t.D
 |.int k,.int k' z=>match ikB k k' with
  |true=>some z
  |false=>none
 |.bool,.bool b=>some b
 |.str,.string s=>some s.data.toList
 |_,_=>none
theorem jek{t:Ty}{v:Value}{x:t.D}(h:ofCx t v=some x):ofV v=enc t x:=by
 unfold ofCx at h;split at h
 ·split at h<;>cases h;rename_i e;rw[zxh e];rfl
 ·cases h;rfl
 ·cases h;rfl
 ·cases h
def Vv(t:Ty):TS->Option t.D
 |.v d=>d.as t
 |.c v=>ofCx t v
 |_=>none
theorem zf{t:Ty}{s:TS}{x:t.D}(h:Vv t s=some x):s.den=enc t x:=by
 unfold Vv at h;split at h
 ·have:=wai h;subst this;simp only[TS.den]
 ·simp only[TS.den];exact jek h
 ·cases h
def zeb:TS->Option Int
 |.v ⟨.int _,z⟩=>some z
 |.c (.int _ z)=>some z
 |_=>none
theorem Yo{s:TS}{z:Int}(h:zeb s=some z):∃k,s.den=.u (.int k z):=by
 unfold zeb at h;split at h
 ·cases h;exact⟨_,by simp only[TS.den];rfl⟩
 ·cases h;exact⟨_,by simp only[TS.den];rfl⟩
 ·cases h
def vc{α:Type}(o:Option α)(f:α->Option SR):Option SR:=match o with
 |some a=>f a
 |none=>none
theorem jp{α:Type}{o:Option α}{f:α->Option SR}{q:SR}(h:vc o f=some q):∃a,o=some a/\f a=some q:=by
 cases o with
 |none=>cases h
 |some a=>exact⟨a,rfl,h⟩
def intX(k:IntKind)(op:BinOp)(a b:Int):Option Int:=match op with
 |.add=>some (k.wrap (a+b))
 |.sub=>some (k.wrap (a-b))
 |.mul=>some (k.wrap (a*b))
 |.and=>some (jcf k a b)
 |.or=>some (orI k a b)
 |.xor=>some (xorI k a b)
 |.andNot=>some (zxg k a b)
 |_=>none
def cmpX(op:BinOp)(a b:Int):Option Bool:=match op with
 |.eql=>some (decide (a=b))
 |.neq=>some (decide (¬a=b))
 |.lss=>some (decide (a<b))
 |.leq=>some (decide (a<=b))
 |.gtr=>some (decide (b<a))
 |.geq=>some (decide (b<=a))
 |_=>none
def jeu(k:IntKind)(op:BinOp)(a b:Int):Option (Option Int):=match op with
 |.quo=>some (zw3 k a b)
 |.rem=>some (z1i k a b)
 |.shl=>some (z2k k a b)
 |.shr=>some (zof k a b)
 |_=>none
theorem jcv{k:IntKind}{op:BinOp}{a b r:Int}(h:intX k op a b=some r)(t:Nat)(x y:Operand):yg P op t x y (.u (.int k a)) (.u (.int k b))=some (.u (.int k r)):=by
 unfold intX at h;split at h<;>cases h
 ·exact zlu
 ·exact zvs
 ·exact zvw
 ·exact b_and _ _
 ·exact b_or _ _
 ·exact b_xor _ _
 ·exact jae _ _
theorem jeg{k:IntKind}{op:BinOp}{a b:Int}{r:Bool}(h:cmpX op a b=some r)(t:Nat)(x y:Operand):yg P op t x y (.u (.int k a)) (.u (.int k b))=some (.u (.bool r)):=by
 unfold cmpX at h;split at h<;>cases h
 ·exact z8x
 ·exact z97
 ·exact zdv
 ·exact z9m
 ·exact z1p
 ·exact zqw
theorem z5a{k k':IntKind}{op:BinOp}{a b r:Int}{q:Option Int}(h:jeu k op a b=some q)(hq:q=some r)(hk:op=.shl\/op=.shr\/k'=k)(t:Nat)(x y:Operand):yg P op t x y (.u (.int k a)) (.u (.int k' b))=some (.u (.int k r)):=by
 unfold jeu at h;split at h<;>cases h
 ·rcases hk with h|h|h<;>first|cases h|skip
  exact b_quo hq
 ·rcases hk with h|h|h<;>first|cases h|skip
  exact b_rem hq
 ·exact b_shl hq
 ·exact b_shr hq
def isSh(op:BinOp):Bool:=match op with
 |.shl=>true
 |.shr=>true
 |_=>false
def foldOp(op:BinOp):Bool:=match op with
 |.and=>false
 |.or=>false
 |.xor=>false
 |.andNot=>false
 |_=>true
def isC(x y:TS)(op:BinOp):Bool:=match x with
 |.c _=>match y with
  |.c _=>foldOp op
  |_=>false
 |_=>false
def vxI(c bd:Bool)(k:IntKind)(r:Int):SR:=match c with
 |true => .now (.c (.int k r)) []
 |false => .vx bd (.int k) r
def vxB(c bd:Bool)(r:Bool):SR:=match c with
 |true => .now (.c (.bool r)) []
 |false => .vx bd .bool r
theorem SOk.vxI{c bd:Bool}{k:IntKind}{r:Int}(h:∀W F H,Agr o E G [] F H->PQ P W o F H (.u (.int k r))):SOk P o E G (vxI c bd k r):=by
 cases c with
 |true=>exact SOk.now λW F H ha=>by simp only[TS.den];exact h W F H ha
 |false=>exact SOk.vx λW F H ha=>h W F H ha
theorem SOk.vxB{c bd:Bool}{r:Bool}(h:∀W F H,Agr o E G [] F H->PQ P W o F H (.u (.bool r))):SOk P o E G (vxB c bd r):=by
 cases c with
 |true=>exact SOk.now λW F H ha=>by simp only[TS.den];exact h W F H ha
 |false=>exact SOk.vx λW F H ha=>h W F H ha
def sInt(bd:Bool)(k:IntKind)(op:BinOp)(x y:TS):Option SR:=match isSh op with
 |true=>vc (Vv (.int k) x) λa=>vc (zeb y) λb=>match jeu k op a b with
  |some q=>some (.vo (.int k) q)
  |none=>none
 |false=>vc (Vv (.int k) x) λa=>vc (Vv (.int k) y) λb=>match intX k op a b with
  |some r=>some (vxI (isC x y op) bd k r)
  |none=>match cmpX op a b with
   |some r=>some (vxB (isC x y op) bd r)
   |none=>match jeu k op a b with
    |some q=>some (.vo (.int k) q)
    |none=>none
theorem jcu{bd:Bool}{k:IntKind}{op:BinOp}{t t':Nat}{x y:Operand}{q:SR}(ho:o.op=.binOp op t x y t')(hy:zgf P t y=true)(h:sInt bd k op (evE E x) (evE E y)=some q):SOk P o E G q:=by
 have hx':x∈o.op.operands:=by rw[ho];simp[Op.operands]
 have hy':y∈o.op.operands:=by rw[ho];simp[Op.operands]
 have step:∀{W F H}{p1 p2 r:PV},(evE E x).den=p1->(evE E y).den=p2->yg P op t x y p1 p2=some r->Agr o E G [] F H->PQ P W o F H r:=λ{W F H p1 p2 r}h1 h2 h3 ha=>by
  refine jh ?_;unfold jr;rw[ho];simp only;rw[zek hy,ha.ev hx',ha.ev hy',h1,h2,h3]
 unfold sInt at h;split at h
 ·rename_i hsh;obtain⟨a,ha,h⟩:=jp h;obtain⟨b,hb,h⟩:=jp h;split at h<;>try (cases h;done)
  rename_i qo hq;cases h;obtain⟨k',hk'⟩:=Yo hb;refine SOk.vo λr hr W F H hag=>step (zf ha) hk' (z5a hq hr ?_ t x y) hag;cases op<;>first|exact .inl rfl|exact .inr (.inl rfl)|(simp[isSh]at hsh)
 ·obtain⟨a,ha,h⟩:=jp h;obtain⟨b,hb,h⟩:=jp h;split at h
  ·rename_i r hr;cases h;exact SOk.vxI λW F H hag=>step (zf ha) (zf hb) (jcv hr t x y) hag
  ·split at h
   ·rename_i r hr;cases h;exact SOk.vxB λW F H hag=>step (zf ha) (zf hb) (jeg hr t x y) hag
   ·split at h<;>try (cases h;done)
    rename_i qo hq;cases h;exact SOk.vo λr hr W F H hag=>step (zf ha) (zf hb) (z5a hq hr (.inr (.inr rfl)) t x y) hag
def z8t(bd:Bool)(op:BinOp)(x y:TS):Option SR:=vc (Vv .bool x) λa=>vc (Vv .bool y) λb=>match op with
 |.eql=>some (.vx bd .bool (a == b))
 |.neq=>some (.vx bd .bool (a != b))
 |_=>none
theorem z8u{bd:Bool}{op:BinOp}{t t':Nat}{x y:Operand}{q:SR}(ht:P.underlying t=some .bool)(ho:o.op=.binOp op t x y t')(hy:zgf P t y=true)(h:z8t bd op (evE E x) (evE E y)=some q):SOk P o E G q:=by
 have hx':x∈o.op.operands:=by rw[ho];simp[Op.operands]
 have hy':y∈o.op.operands:=by rw[ho];simp[Op.operands]
 unfold z8t at h;obtain⟨a,ha,h⟩:=jp h;obtain⟨b,hb,h⟩:=jp h;have step:∀{W F H}{r:Bool},yg P op t x y (.u (.bool a)) (.u (.bool b))=some (.u (.bool r))->Agr o E G [] F H->PQ P W o F H (.u (.bool r)):=λ{W F H r}h3 hag=>by
  refine jh ?_;unfold jr;rw[ho];simp only;rw[zek hy,hag.ev hx',hag.ev hy',zf ha,zf hb];exact h3
 split at h<;>cases h
 ·exact SOk.vx λW F H hag=>step (b_eqB a b ht) hag
 ·exact SOk.vx λW F H hag=>step (b_neB a b ht) hag
def jb7(a b:List UInt8):Option (List UInt8):=match decide (((a.length+b.length:Nat):Int)<=9223372036854775807)with
 |true=>some (a++b)
 |false=>none
def sStr(bd:Bool)(op:BinOp)(x y:TS):Option SR:=vc (Vv .str x) λa=>vc (Vv .str y) λb=>match op with
 |.eql=>some (.vx bd .bool (a == b))
 |.neq=>some (.vx bd .bool (!(a == b)))
 |.lss=>some (.vx bd .bool (Op.bytesLess a b))
 |.add=>some (.vo .str (jb7 a b))
 |_=>none
theorem zbr(a:List UInt8):(ByteArray.mk ⟨a⟩).toList=a:=by
 rw[ByteArray.toList_eq]
theorem jfc{bd:Bool}{op:BinOp}{t t':Nat}{x y:Operand}{q:SR}(ho:o.op=.binOp op t x y t')(hy:zgf P t y=true)(h:sStr bd op (evE E x) (evE E y)=some q):SOk P o E G q:=by
 have hx':x∈o.op.operands:=by rw[ho];simp[Op.operands]
 have hy':y∈o.op.operands:=by rw[ho];simp[Op.operands]
 unfold sStr at h;obtain⟨a,ha,h⟩:=jp h;obtain⟨b,hb,h⟩:=jp h;have step:∀{W F H}{r:PV},yg P op t x y (.u (.string ⟨⟨a⟩⟩)) (.u (.string ⟨⟨b⟩⟩))=some r->Agr o E G [] F H->PQ P W o F H r:=λ{W F H r}h3 hag=>by
  refine jh ?_;unfold jr;rw[ho];simp only;rw[zek hy,hag.ev hx',hag.ev hy',zf ha,zf hb];exact h3
 split at h<;>cases h
 ·refine SOk.vx λW F H hag=>?_;have:=z7t (P:=P) (t:=t) (x:=x) (y:=y) (⟨⟨a⟩⟩:ByteArray) ⟨⟨b⟩⟩;rw[zbr,zbr]at this;exact step this hag
 ·refine SOk.vx λW F H hag=>?_;have:=z6p (P:=P) (t:=t) (x:=x) (y:=y) (⟨⟨a⟩⟩:ByteArray) ⟨⟨b⟩⟩;rw[zbr,zbr]at this;exact step this hag
 ·refine SOk.vx λW F H hag=>?_;have:=b_lssS (P:=P) (t:=t) (x:=x) (y:=y) (⟨⟨a⟩⟩:ByteArray) ⟨⟨b⟩⟩;unfold bltS at this;rw[zbr,zbr]at this;exact step this hag
 ·refine SOk.vo λr hr W F H hag=>?_;unfold jb7 at hr;split at hr<;>cases hr;rename_i hle;have hle:=wd3 hle;have:jd7 (⟨⟨a⟩⟩:ByteArray) ⟨⟨b⟩⟩=some (⟨⟨a⟩⟩ ++ ⟨⟨b⟩⟩):=by
   unfold jd7;rw[if_pos];exact hle
  have h2:=b_addS (P:=P) (t:=t) (x:=x) (y:=y) this;have e:(⟨⟨a⟩⟩ ++ ⟨⟨b⟩⟩:ByteArray)=⟨⟨a++b⟩⟩:=by
   apply ByteArray.ext;rw[ByteArray.data_append];simp
  rw[e]at h2;exact step h2 hag
theorem zyp{x:Operand}(ho:o.op=.move x\/o.op=.assign x):SOk P o E G (.now (evE E x) []):=SOk.now λW F H hag=>by
 refine jh ?_;unfold jr;rcases ho with ho|ho
 ·rw[ho];simp only;rw[hag.ev (by rw[ho];simp[Op.operands])]
 ·rw[ho];simp only;rw[hag.ev (by rw[ho];simp[Op.operands])]
def ja6:TS->Option Ty
 |.v d=>some d.t
 |.c (.bool _)=>some .bool
 |.c (.int k _)=>some (.int k)
 |.c (.string _)=>some .str
 |_=>none
def z9c(bd:Bool)(c x y:TS):Option SR:=match c with
 |.c (.bool true)=>some (.now x [])
 |.c (.bool false)=>some (.now y [])
 |.v ⟨.bool,b⟩=>match ja6 x with
  |none=>none
  |some t=>match ja6 y with
   |none=>none
   |some t'=>match t with
    |.bool=>vc (Vv .bool x) λp=>vc (Vv .bool y) λq=>some (.vx bd .bool (cond b p q))
    |t=>vc (Vv t x) λp=>vc (Vv t y) λq=>some (.vx bd t (cond b p q))
 |_=>none
theorem jbs{bd:Bool}{c x y:Operand}{q:SR}(ho:o.op=.pick c x y)(h:z9c bd (evE E c) (evE E x) (evE E y)=some q):SOk P o E G q:=by
 have hc':c∈o.op.operands:=by rw[ho];simp[Op.operands]
 have hx':x∈o.op.operands:=by rw[ho];simp[Op.operands]
 have hy':y∈o.op.operands:=by rw[ho];simp[Op.operands]
 have step:∀{W F H}{b:Bool}{p1 p2:PV},(evE E c).den=.u (.bool b)->(evE E x).den=p1->(evE E y).den=p2->Agr o E G [] F H->PQ P W o F H (if b then p1 else p2):=λ{W F H b p1 p2}h1 h2 h3 hag=>by
  refine jh ?_;unfold jr;rw[ho];simp only;rw[hag.ev hc',hag.ev hx',hag.ev hy',h1,h2,h3]
 have typed:∀{t:Ty}{b:Bool}{q:SR},(evE E c).den=.u (.bool b)->(vc (Vv t (evE E x)) λp=>vc (Vv t (evE E y)) λq=>some (.vx bd t (cond b p q)))=some q->SOk P o E G q:=λ{t b q}h1 h=>by
  obtain⟨p1,hp,h⟩:=jp h;obtain⟨p2,hq,h⟩:=jp h;cases h;refine SOk.vx λW F H hag=>?_;have:=step (W:=W) h1 (zf hp) (zf hq) hag;cases b<;>exact this
 unfold z9c at h;split at h
 ·rename_i hc;cases h;exact SOk.now λW F H hag=>by
   have:=step (W:=W) (b:=true) (by rw[hc];simp only[TS.den];rfl) rfl rfl hag;exact this
 ·rename_i hc;cases h;exact SOk.now λW F H hag=>by
   have:=step (W:=W) (b:=false) (by rw[hc];simp only[TS.den];rfl) rfl rfl hag;exact this
 ·rename_i b hc;have h1:(evE E c).den=.u (.bool b):=by rw[hc];simp only[TS.den];rfl
  split at h<;>try (cases h;done)
  split at h<;>try (cases h;done)
  split at h
  ·exact typed h1 h
  ·exact typed h1 h
 ·cases h
def sNot(bd:Bool)(x:TS):Option SR:=vc (Vv .bool x) λb=>some (.vx bd .bool (!b))
theorem jc6{bd:Bool}{t:TypeId}{x:Operand}{q:SR}(ho:o.op=.unOp .not t x)(h:sNot bd (evE E x)=some q):SOk P o E G q:=by
 have hx':x∈o.op.operands:=by rw[ho];simp[Op.operands]
 obtain⟨b,hb,h⟩:=jp h;cases h;refine SOk.vx λW F H hag=>jh ?_;unfold jr;rw[ho];simp only;rw[hag.ev hx',zf hb];exact z5b b
def jf2(bd:Bool)(k:IntKind)(x:TS):Option SR:=vc (zeb x) λz=>some (.vx bd (.int k) (k.wrap z))
theorem jb8{bd:Bool}{t t':TypeId}{x:Operand}{k:IntKind}{q:SR}(ho:o.op=.convert t t' x)(h1:(zku P t).isSome=true)(h2:zku P t'=some k)(h:jf2 bd k (evE E x)=some q):SOk P o E G q:=by
 have hx':x∈o.op.operands:=by rw[ho];simp[Op.operands]
 obtain⟨z,hz,h⟩:=jp h;cases h;obtain⟨k',hk'⟩:=Yo hz;refine SOk.vx λW F H hag=>jh ?_;unfold jr;rw[ho];simp only;rw[hag.ev hx',hk'];exact z69 h1 h2
end
end Go.Proofs.YtdllbdlnmjngcaaGreat.T
