
import Derived.Test.YtigdmmgklieofaaGreatQ4TouchTables

namespace Go.Proofs.YtigdmmgklieofaaGreat.T
noncomputable section
open _root_.Go.Proofs.Tryz
set_option maxRecDepth 100000
set_option maxHeartbeats 8000000
set_option linter.unusedVariables false
set_option linter.unusedSimpArgs false
set_option linter.defProp false
open List (replicate range)
open Go Go.RowKit L
def zlu(g:jb)(w:zeu g):Tn (λnn=>za4 nn g) (λd=>d=gFd g):=by
 have ht:=w.t;have Z:=w.r;have hp:=w.p;have B:gFd g=jy (((((szA g++szB g)++zue g)++zp9 g)++zon g++[zln g])++zox g):=by{unfold gFd;simp};unfold za4;refine Waj (jkz g w.toGLen) waa λd0 O=>?_;generalize szA g++szB g=P1 at O B;refine Tt.loop (λm s=>∃(k:Nat)(d:jc),k<=g.1.length/\m=g.1.length-k/\s=((k:Int),g,zd,d)/\d=jy (P1++(zue g).take k)) g.1.length waa ⟨0,d0,U,Wab,rfl,X⟩ λm s⟨k,d,P,Q,n,q⟩ I j=>?_;subst n;dsimp only;have a2:(zue g).length=g.1.length:=by{unfold zue;simp};refine Tt.J (λs=>∃b,s=((k:Int),b,g,zd,d)/\(b=true↔d.1=0/\k<g.1.length)) (λC f=>?_) (λs⟨b,n,u⟩=>?_);{refine Tt.b1 (wab (λe=>f _ ⟨_,rfl,?_⟩) λe=>f _ ⟨_,rfl,?_⟩);{grind};.have e:=wck e;simp[e]};subst n;dsimp only;refine wab (λc=>?_) (λc=>?_);{obtain⟨e,o⟩:=u.1 c;have i:=wch o;refine Waj (jml g w k _ i) waa.fst λx y=>Tt.b1 ?_;rw[wI U U];refine j (g.1.length-(k+1)) _ U ⟨k+1,x,U,rfl,rfl,?_⟩;subst y;exact zpk q e (by unfold zue;rw[we8,i];rfl) λh=>tokD_z h};have F:=zrc q (by rw[a2];exact λh=>by rw[u.2 h]at c;cases c);clear j q u;generalize P1++zue g=L at F B;have a0:(zp9 g).length=g.2.1.length:=by{unfold zp9;simp};refine Tt.loop (λm s=>∃(k:Nat)(d:jc),k<=g.2.1.length/\m=g.2.1.length-k/\s=((k:Int),g,zd,d)/\d=jy (L++(zp9 g).take k)) g.2.1.length waa.fst ⟨0,d,U,Wab,rfl,X⟩ λm s⟨k,d,P,Q,n,q⟩ I j=>?_;subst n;dsimp only;refine Tt.J (λs=>∃b,s=((k:Int),b,g,zd,d)/\(b=true↔d.1=0/\k<g.2.1.length)) (λC f=>?_) (λs⟨b,n,u⟩=>?_);{refine Tt.b1 (wab (λe=>f _ ⟨_,rfl,?_⟩) λe=>f _ ⟨_,rfl,?_⟩);{grind};.have e:=wck e;simp[e]};subst n;dsimp only;refine wab (λc=>?_) (λc=>?_)
 .obtain⟨e,o⟩:=u.1 c;have i:=wch o;have z:=wcm o;generalize g.2.1[k]=t at i z;have A:d=zd:=by{have:=zmb (l:=L++(zp9 g).take k) (by rw[<- q];exact e);rw[q,this]};refine Tt.J (λs=>∃x,s=((k:Int),g,zd,x)/\x=z15 g k t) (λC f=>?_) (λs⟨x,n,y⟩=>?_)
  .refine Waj (z5m g w.toGLen) waa.fst.fst λns S=>?_;subst S;have ew:T.w64 ((g.1.length:Int)+(k:Int))=((g.1.length+k:Nat):Int):=by{rw[wI U U];omega};rw[ew];have y:(zdp g)[g.1.length+k]?=some t:=by{unfold zdp;rw[wcw V];simpa using i};have a1:(zdp g).take (g.1.length+k)=g.1.map (·.1)++g.2.1.take k:=by{unfold zdp;rw[show g.1.length+k=(g.1.map (·.1)).length+k by simp,List.take_length_add_append]};refine Waj (jac (zdp g) (by unfold zdp;simp;omega) _ t y (w.rm t z)) waa.fst.fst λr Z=>?_;rw[a1]at Z;unfold z15 at f;rcases Z with⟨rfl,a⟩|⟨rfl,a,b⟩|⟨rfl,a,b⟩
   {exact wah rfl (f _ ⟨_,rfl,by rw[if_pos a]⟩)};{exact wah rfl (f _ ⟨_,rfl,by rw[if_neg (λh=>h a),if_pos b]⟩)};.exact wae rfl (f _ ⟨_,rfl,by rw[if_neg (λh=>h a),if_neg b];exact A⟩)
  .subst n;refine Tt.b1 ?_;dsimp only;rw[wI U U];refine j (g.2.1.length-(k+1)) _ U ⟨k+1,x,U,rfl,rfl,?_⟩;subst y;refine zpk q e (by unfold zp9;rw[we8,i];rfl) λh=>?_;unfold z15 at h⊢;split at h;{cases h};.rename_i N;rw[if_neg N];split at h;{cases h};.rename_i h2;rw[if_neg h2]
 have G:=zrc q (by rw[a0];exact λh=>by rw[u.2 h]at c;cases c);clear j q u F;generalize L++zp9 g=P3 at G B;have Y:(zon g).length=g.2.2.1.length:=by{unfold zon;simp};refine Tt.loop (λm s=>∃(k:Nat)(d:jc),k<=g.2.2.1.length/\m=g.2.2.1.length-k/\s=((k:Int),g,zd,d)/\d=jy (P3++(zon g).take k)) g.2.2.1.length waa.fst.fst ⟨0,d,U,Wab,rfl,X⟩ λm s⟨k,d,P,Q,n,q⟩ I j=>?_;subst n;dsimp only;refine Tt.J (λs=>∃b,s=((k:Int),b,g,zd,d)/\(b=true↔d.1=0/\k<g.2.2.1.length)) (λC f=>?_) (λs⟨b,n,u⟩=>?_);{refine Tt.b1 (wab (λe=>f _ ⟨_,rfl,?_⟩) λe=>f _ ⟨_,rfl,?_⟩);{have e:=wcj e;simp only[wc9];omega};.have e:=wck e;simp[e]};subst n;dsimp only;refine wab (λc=>?_) (λc=>?_);{obtain⟨e,o⟩:=u.1 c;have i:=wch o;refine Waj (jrv g w k _ i) waa.fst.fst.fst λx y=>Tt.b1 ?_;rw[wI U U];refine j (g.2.2.1.length-(k+1)) _ U ⟨k+1,x,U,rfl,rfl,?_⟩;subst y;exact zpk q e (by unfold zon;rw[we8,i];rfl) λh=>prdD_z h};have v:=zrc q (by rw[Y];exact λh=>by rw[u.2 h]at c;cases c);clear j q u G;generalize P3++zon g=M at v B;refine Tt.J (λs=>∃d,s=(g,zd,d)/\d=jy (M++[zln g])) (λI j=>?_) (λs⟨d,n,H⟩=>?_);{refine Tt.J (λs=>∃b,s=(b,g,zd,d)/\(b=true↔d.1=0/\(g.2.2.2.1<0\/(g.2.1.length:Int)<=g.2.2.2.1))) (λC f=>?_) (λs⟨b,n,u⟩=>?_);{refine Tt.b1 (wab (λe=>Tt.b1 (wab (λo=>f _ ⟨_,rfl,?_⟩) λo=>f _ ⟨_,rfl,?_⟩)) λe=>f _ ⟨_,rfl,?_⟩);{have e:=wcj e;have o:=wcj o;simp[e,o]};{have e:=wcj e;have o:=wck o;simp only[wc9];omega};.have e:=wck e;simp[e]};.subst n;dsimp only;refine wab (λc=>j _ ⟨_,rfl,?_⟩) λc=>j _ ⟨_,rfl,?_⟩;{obtain⟨e,o⟩:=u.1 c;rw[vy,if_pos (by rw[<- v];exact e)];unfold zln;rw[if_pos o];rfl};.by_cases e:d.1=0;{have o:¬(g.2.2.2.1<0\/(g.2.1.length:Int)<=g.2.2.2.1):=λh=>by{rw[u.2 ⟨e,h⟩]at c;cases c};rw[vy,if_pos (by rw[<- v];exact e)];unfold zln;rw[if_neg o];have:=zmb (l:=M) (by rw[<- v];exact e);rw[v,this];rfl};.rw[vy,if_neg (by rw[<- v];exact e)];exact v};subst n;dsimp only;clear v;generalize M++[zln g]=P5 at H B;have R:(zox g).length=g.2.1.length:=by{unfold zox;simp};refine Tt.loop (λm s=>∃(k:Nat)(d:jc),k<=g.2.1.length/\m=g.2.1.length-k/\s=((k:Int),g,zd,d)/\d=jy (P5++(zox g).take k)) g.2.1.length waa.fst.fst.fst ⟨0,d,U,U,rfl,by simpa using H⟩ λm s⟨k,d,P,Q,n,q⟩ I j=>?_;subst n;dsimp only;refine Tt.J (λs=>∃b,s=((k:Int),b,g,zd,d)/\(b=true↔d.1=0/\k<g.2.1.length)) (λC f=>?_) (λs⟨b,n,u⟩=>?_);{refine Tt.b1 (wab (λe=>f _ ⟨_,rfl,?_⟩) λe=>f _ ⟨_,rfl,?_⟩);{have e:=wcj e;simp only[wc9];omega};.have e:=wck e;simp[e]};subst n;dsimp only;refine wab (λc=>?_) (λc=>Tt.pure ?_);{obtain⟨e,o⟩:=u.1 c;have i:=wch o;have A:d=zd:=by{have:=zmb (l:=P5++(zox g).take k) (by rw[<- q];exact e);rw[q,this]};refine Tt.J (λs=>∃x,s=((k:Int),g,zd,x)/\x=jbf g k g.2.1[k]) (λC f=>?_) (λs⟨x,n,y⟩=>?_);{refine Waj (refOfE g w.toGLen (k:Int)) waa.fst.fst.fst.fst λl hl=>?_;subst hl;unfold jbf at f;refine wab (λD=>f _ ⟨_,rfl,?_⟩) λD=>f _ ⟨_,rfl,?_⟩;{have D:=wcj D;rw[if_pos U]};.have D:=wck D;rw[if_neg U];exact A};.subst n;refine Tt.b1 ?_;dsimp only;rw[wI U U];refine j (g.2.1.length-(k+1)) _ U ⟨k+1,x,U,rfl,rfl,?_⟩;subst y;refine zpk q e (by unfold zox;rw[we8,i];rfl) λh=>?_;unfold jbf at h⊢;split at h;{cases h};.rename_i N;rw[if_neg N]};.rw[B];exact zrc q (by rw[R];exact λh=>by rw[u.2 h]at c;cases c)
def at0{α:Type}(x:α)(l:Wam α):atL (x::l) 0=some x:=rfl
def sl1{α:Type}(x:α)(l:Wam α):znb (x::l) (some 1) none=some l:=by unfold znb bdN;simp
structure UnI(a b a' b' out:List Int):Prop where
 m:∀x,(x∈a\/x∈b)↔(x∈out\/x∈a'\/x∈b')
 l:out.length+a'.length+b'.length<=a.length+b.length
 r:jx a->jx b->jx a'/\jx b'/\jx out/\∀x∈out,(∀y∈a',x<y)/\∀y∈b',x<y
def z1m{l:W7}{x:Int}(h:jx l)(a:∀y∈l,y<x):jx (l++[x]):=by unfold jx at *;grind
def jmn(a b:W7)(hl:a.length+b.length<=1000000):Tn (λnn=>Qi nn a b) (λr=>r.length<=a.length+b.length/\(∀x,x∈r↔x∈a\/x∈b)/\(jx a->jx b->jx r)):=by unfold Qi;refine Tt.loop (λm s=>∃j g out,m=j.length+g.length/\s=(j,g,out)/\UnI a b j g out) (a.length+b.length) waa ⟨a,b,[],rfl,rfl,⟨λx=>V,V,λd f=>⟨d,f,by simp[jx],V⟩⟩⟩ λm s⟨j,g,out,O,S,k⟩ nx i=>?_;subst S;have N:=k.l;have n:∀x,out.length+1<=1000000->apO 8 out [x]=some (out++[x]):=λx h=>ye X U;have F:∀{x:Int}{c:W7},j=x::c->(jx g->∀y∈g,x<y)->UnI a b c g (out++[x]):=λ{x c}e H=>by{subst e;refine⟨λz=>by rw[k.m];grind,X,λd f=>?_⟩;obtain⟨A,B,C,D⟩:=k.r d f;have u:=wdj.1 A;refine⟨u.2,B,z1m C λy Z=>(D y Z).1 x V,λz hz=>?_⟩;grind};have G:∀{y:Int}{b1:W7},g=y::b1->(jx j->∀x∈j,y<x)->UnI a b j b1 (out++[y]):=λ{y b1}e H=>by{subst e;refine⟨λz=>by rw[k.m];grind,X,λd f=>?_⟩;obtain⟨A,B,C,D⟩:=k.r d f;have v:=wdj.1 B;refine⟨A,v.2,z1m C λz hz=>(D z hz).2 y V,λz hz=>?_⟩;grind};have L:∀{x:Int}{c b1:W7},j=x::c->g=x::b1->UnI a b c b1 (out++[x]):=λ{x c b1}P Q=>by{subst P;subst Q;refine⟨λz=>by rw[k.m];grind,X,λd f=>?_⟩;obtain⟨A,B,C,D⟩:=k.r d f;have u:=wdj.1 A;have v:=wdj.1 B;refine⟨u.2,v.2,z1m C λz hz=>(D z hz).2 x V,λz hz=>?_⟩;grind};have M:∀{x y:Int}{l:W7},x<y->jx (y::l)->∀z∈y::l,x<z:=λ{x y l}h R z hz=>by{have:=wdj.1 R;grind};cases j with|nil=>{cases g with|nil=>{simp[T.J,ja,ifB];refine Tt.pure ⟨U,λx=>?_,λd f=>(k.r d f).2.2.1⟩;have:=k.m x;grind}|cons y b1=>have I:=n y X;simp[T.J,ja,ifB,at0,sl1,I];exact i _ _ X ⟨[],b1,_,rfl,rfl,G rfl λ_ x Y=>X⟩}|cons x c=>cases g with|nil=>{have I:=n x X;simp[T.J,ja,ifB,at0,sl1,I];exact i _ _ X ⟨c,[],_,rfl,rfl,F rfl λ_ x Y=>X⟩}|cons y b1=>have o:=n x X;have w:=n y X;have p:¬((b1.length:Int)+1=0):=U;have q:¬((c.length:Int)+1=0):=U;have t:(0:Int)<(c.length:Int)+1:=U;by_cases d:x<y;{simp[T.J,ja,ifB,at0,sl1,o,w,d,p,q,t];exact i _ _ X ⟨c,y::b1,_,rfl,rfl,F rfl (M d)⟩};.by_cases f:y<x;{simp[T.J,ja,ifB,at0,sl1,o,w,d,f,p,q,t];exact i _ _ (by subst O;simp<;>omega) ⟨x::c,b1,_,rfl,rfl,G rfl (M f)⟩};.have e:x=y:=U;subst e;simp[T.J,ja,ifB,at0,sl1,o,p,q,t];exact i _ _ (by subst O;simp<;>omega) ⟨c,b1,_,rfl,rfl,L rfl rfl⟩
def vn{n k:Nat}(h:k<n):jq n (k:Int)=some (k:Int):=by unfold jq;grind
def waj{ι β:Type}{D:Fi ι}{n j:Nat}{K:ι->Int->Wal β}{Q:β->Prop}(h:j<n)(a:Tt D (λi=>K i (j:Int)) Q):Tt D (λi=>ja (jq n (j:Int)) (K i)) Q:=wac _ (vn h) a
def yw{α:Type}{l:Wam α}{k:Nat}(x:α)(h:k<l.length):yi l (k:Int) x=some (l.set k x):=by unfold yi;grind
def mkN{b n:Nat}(a:n<=1000000)(c:b<=1000):mkO b (n:Int)=some n:=by unfold mkO;have d:decide ((n:Nat)<=maxLen)=true:=wdh (by simp[maxLen];omega);have e:decide (b*n<=281474976710656)=true:=wdh (by have:=Nat.mul_le_mul c a;omega);grind
def yx:W8->Nat
 |[]=>0
 |b::l=>(if b=true then 0 else 1)+yx l
def zg2:∀{l:W8}{k:Nat},l[k]?=some false->yx (l.set k true)+1=yx l
 |[],k,h=>X
 |b::l,0,h=>by simp at h;subst h;simp[yx];omega
 |b::l,k+1,h=>by have:=zg2 (l:=l) (k:=k) X;simp[yx];omega
def emC(r:W8)(p:jk):Prop:=(∀x∈p.2.1,x.1=true/\r[x.2.1.toNat]?=some true)->r[p.1.toNat]?=some true
def jkt(g:jb)(x:jj)(r:W8)(k:r.length=g.2.1.length)(i:zdn g x):Tn (λj=>Zl j x r) (λb=>b=true↔x.1=true/\r[x.2.1.toNat]?=some true):=by unfold Zl;refine Tt.J (λb=>b=true↔x.1=true/\r[x.2.1.toNat]?=some true) (λl a=>?_) (λs h=>Tt.pure h);refine wab (λc=>?_) (λc=>a _ X);obtain⟨d,e⟩:=i;rw[if_pos c]at e;have f:x.2.1.toNat<r.length:=U;refine wac _ (Qf d (wch f)) (a _ ?_);grind
abbrev GR(g:jb):Prop:=Tn (λnn=>Je nn g) (λb=>b=true)
def jiq(N:Int):∀l a,jx l->(∀x∈l,a<=x/\x<N)->(l.length:Int)<=max 0 (N-a)
 |[],a,_,_=>X
 |x::l,a,d,b=>by
  have c:=wdj.1 d;have e:=b x V;have:=jiq N l (x+1) c.2 λy f=>⟨X,(b y X).2⟩
  grind
def je3(l:W7)(h:jx l)(N:Nat)(a:∀x∈l,0<=x/\x<(N:Int)):l.length<=N:=by have:=jiq N l 0 h a;omega
structure RN(n:Nat)(l:List Int):Prop where
 r:jx l
 b:∀x∈l,0<=x/\x<n
def RN.len{n:Nat}{l:W7}(h:RN n l):l.length<=n:=je3 l h.r n h.b
def RN.nil(n:Nat):RN n []:=⟨by simp[jx],V⟩
def inF(em:W8)(al:W4)(t:Int):List jj->Prop
 |[]=>False
 |x::l=>if x.1=true then t∈al.getD x.2.1.toNat []\/(em.getD x.2.1.toNat false=true/\inF em al t l)else t=x.2.1
def zgf{n:Nat}{a b:W7}(l:n<=1000)(c:RN n a)(d:RN n b):Tn (λe=>zab e a b) (λr=>RN n r/\∀x,x∈r↔x∈a\/x∈b):=by
 have j:=c.len;have k:=d.len;refine Tt.mono (jmn a b U:Tn (λe=>zab e a b) _) λr⟨_,f,i⟩=>⟨⟨i c.r d.r,λx g=>?_⟩,f⟩
 rcases(f x).1 g with h|h;{exact c.b x h};.exact d.b x h
def jqn(g:jb)(z:GOk g)(em:W8)(al:W4)(O:em.length=g.2.1.length)(N:al.length=g.2.1.length)(q:∀l∈al,RN g.1.length l)(its:Wam jj)(Q:its.length<=1000)(u:∀x∈its,zdn g x):
  Tn (λH=>Vw H (some (em,al,())) its) (λr=>RN g.1.length r/\∀t,t∈r↔inF em al t its):=by
 have S:=z.t;unfold Vw zal;refine Tt.J (λr=>RN g.1.length r/\∀t,t∈r↔inF em al t its) (λI D=>?_) (λs B=>Tt.pure B);refine Tt.loop (λm s=>∃k out,k<=its.length/\m=its.length-k/\s=(some (em,al,()),its,(its.length:Int),(k:Int),out)/\RN g.1.length out/\∀t,inF em al t its↔t∈out\/inF em al t (its.drop k)) its.length waa ⟨0,[],U,Wab,rfl,RN.nil _,λt=>V⟩ λm s⟨k,out,P,R,B,A,a⟩ T w=>?_;subst B;dsimp only;refine wad (λc=>?_) (λc=>D.fst _ ⟨A,λt=>?_⟩)
 ·have f:k<its.length:=U;have j:=wcm f;have i:=wcy f;refine Tt.at f ?_;obtain⟨x,G⟩:∃x,its[k]=x:=⟨_,rfl⟩
  rw[G]at j i⊢;rw[i]at a;obtain⟨C,n⟩:=u x j;refine wab (λb=>?_) (λb=>?_)
  ·have b:x.1=false:=X;rw[b]at n;simp[wdq,if_false]at n;refine Waj (zgf U A ⟨by simp[jx],λy F=>by simp at F;subst F;exact⟨C,n⟩⟩) waa.fst λr⟨o,p⟩=>Tt.pure ⟨o,λt=>?_⟩;rw[p,a];simp[inF,b]
  ·have b:x.1=true:=by simpa using b
   rw[b,if_pos rfl]at n;have d:x.2.1.toNat<al.length:=U;have e:x.2.1.toNat<em.length:=U;refine Tt.b1 (wac _ (Qf C (wch d)) ?_);refine Waj (zgf U A (q _ (wcm d))) waa.fst λr⟨o,p⟩=>(Tt.b1 (wac _ (Qf C (wch e)) ?_))
   have L:al.getD x.2.1.toNat []=al[x.2.1.toNat]:=X;have M:em.getD x.2.1.toNat false=em[x.2.1.toNat]:=X;refine wab (λh=>D.fst _ ⟨o,λt=>?_⟩) (λh=>Tt.b1 ?_)
   ·have h:em[x.2.1.toNat]=false:=X;rw[p,a];simp[inF,b,List.getD,d,e,h]
   ·have h:em[x.2.1.toNat]=true:=X;rw[wI U U];refine w (its.length-(k+1)) _ U ⟨k+1,r,U,rfl,V,o,λt=>?_⟩;rw[a,p];simp[inF,b,List.getD,d,e,h,or_assoc]
 ·have v:k=its.length:=U;rw[a,v,wef];simp[inF]
def zji:∀{a r:W7},jx a->jx r->(∀x∈a,x∈r)->a.length<=r.length/\(r.length<=a.length->a=r)
 |[],r,_,_,_=>⟨V,λh=>by simp at h;simp[h]⟩
 |x::a,[],_,_,h=>by have:=h x V;simp at this
 |x::a,y::r,j,k,h=>by have d:=wdj.1 j;have f:=wdj.1 k;by_cases e:x=y;{subst e;have c:∀z∈a,z∈r:=λz hz=>by{rcases wdb.1 (h z (by simp[hz]))with b|b;{have:=d.1 z hz;omega};.exact b};obtain⟨b,g⟩:=zji d.2 f.2 c;exact⟨W,λi=>by rw[g (by simpa using i)]⟩};.have l:x∈r:=by{rcases wdb.1 (h x V)with b|b;{exact absurd b e};.exact b};have m:=f.1 x l;have c:∀z∈x::a,z∈r:=λz hz=>by{rcases wdb.1 (h z hz)with b|b;{rcases wdb.1 hz with g|g;{omega};.have:=d.1 z g;omega};.exact b};obtain⟨b,_⟩:=zji j f.2 c;exact⟨by simp at b⊢;omega,λi=>by simp at b i;omega⟩
termination_by a r=>r.length
def Q8(T:Nat):W4->Nat
 |[]=>0
 |l::r=>(T-l.length)+Q8 T r
def zme{T:Nat}:∀{al:W4}{k:Nat}{o n:W7},al[k]?=some o->o.length<n.length->n.length<=T->Q8 T (al.set k n)<Q8 T al
 |[],k,o,n,h,_,_=>X
 |l::r,0,o,n,h,a,b=>by simp at h;subst h;simp[Q8];omega
 |l::r,k+1,o,n,h,a,b=>by have:=zme (al:=r) (k:=k) X a b;simp[Q8];omega
def fiC(em:W8)(al:W4)(p:jk):Prop:=∀t,inF em al t p.2.1->t∈al.getD p.1.toNat []
def jkr(g:jb)(l:zad g)(its:Wam jj)(v:its.length<=1000000)(h:∀x∈its,zdn g x):Tn (λo=>zd5 o g its) (λb=>b=true):=by
 have p:=l.t;have q:=l.r;unfold zd5;refine Tt.loop (λm s=>∃k,k<=its.length/\m=its.length-k/\s=(its,(its.length:Int),(k:Int),g)) its.length waa ⟨0,U,Wab,rfl⟩ λm s⟨k,u,w,e⟩ A i=>?_;subst e;dsimp only;refine wad (λc=>?_) (λc=>Tt.pure rfl);have a:k<its.length:=U;have f:=wcm a;refine Tt.at a ?_;obtain⟨x,n⟩:∃x,its[k]=x:=⟨_,rfl⟩
 rw[n]at f⊢;obtain⟨y,z⟩:=h x f;refine Tt.J (λs=>s=((if x.1=true then(g.2.1.length:Int)else g.1.length),its,(its.length:Int),(k:Int),g,x)) (λB d=>(wab (λc=>d _ X) (λc=>d _ X))) (λs e=>?_);.subst e;dsimp only;refine Tt.J (λs=>s=(its,(its.length:Int),(k:Int),false,g)) (λC j=>?_) (λs e=>?_);{refine Tt.b1 (wae (wc3 U) (j _ ?_));grind};.subst e;dsimp only;refine wae rfl (wai ?_);exact i (its.length-(k+1)) _ U ⟨k+1,U,rfl,V⟩
def ja5(g:jb)(n:zad g)(f:GOk g)(em:W8)(al:W4)(c:em.length=g.2.1.length)(o:al.length=g.2.1.length)(i:∀l∈al,RN g.1.length l)(k:Tn (λj=>Qd j g) (λr=>r=some (em,al,())))
  (its:Wam jj) (d:its.length<=1000) (a:∀x∈its,zdn g x):Tn (λj=>zpd j g its) (λr=>RN g.1.length r/\∀t,t∈r↔inF em al t its):=by
 unfold zpd zom;refine Waj k waa λr h=>?_;subst h;refine Tt.J (λs=>s=(its,some (em,al,()),false)) (λq e=>?_) (λs p=>?_)
 ·refine wae rfl (Waj (jkr g n its U a) waa λb m=>?_);subst m;exact e _ rfl
 ·subst p;dsimp only;refine wae rfl (Waj (jqn g f em al c o i its d a) waa λr h=>Tt.pure h)
def jnw(g:jb)(u:GOk g)(em:W8)(G:Tn (λw=>zj w g) (λr=>r=em))(H:em.length=g.2.1.length)(its:Wam jj)(I:its.length<=1000)(p:∀x∈its,zdn g x):
  Tn (λw=>zhh w g its) (λb=>b=true↔∀x∈its,x.1=true/\em[x.2.1.toNat]?=some true):=by
 unfold zhh;refine Waj G waa λr L=>?_;subst L;have M:=u.start;have j:z06 r=some false:=by
  cases r with
  |nil=>grind
  |cons a l=>rfl
 refine wac _ j (wae rfl ?_);refine Tt.loop (λm s=>∃k,k<=its.length/\m=its.length-k/\s=(r,its,(its.length:Int),(k:Int))/\∀i,i<k->∀x,its[i]?=some x->x.1=true/\r[x.2.1.toNat]?=some true) its.length waa ⟨0,U,U,rfl,λi B=>U⟩ λm s⟨k,R,S,v,A⟩ Y t=>?_;subst v;dsimp only;refine wab (λc=>?_) (λc=>Tt.pure ⟨λ_ x N=>?_,λ_=>rfl⟩)
 ·have c:=wcj c;have d:k<its.length:=U;have e:=wcm d;refine Tt.at d ?_;have o:=wch d;obtain⟨x,D⟩:∃x,its[k]=x:=⟨_,rfl⟩
  rw[D]at e o⊢;obtain⟨O,P⟩:=p x e;refine Tt.J (λs=>∃f,s=(r,its,(its.length:Int),(k:Int),f)/\(f=true->¬(x.1=true/\r[x.2.1.toNat]?=some true))/\(f=false->x.1=true/\r[x.2.1.toNat]?=some true)) (λZ n=>?_) (λs⟨f,v,F,Q⟩=>?_)
  ·refine Tt.b1 (wab (λc=>n _ ⟨true,rfl,λ_ h=>?_,λh=>X⟩) (λc=>?_))
   ·grind
   ·have C:x.1=true:=X;rw[if_pos C]at P;have q:x.2.1.toNat<r.length:=U;refine wae (wc3 U) (wae (wc3 U) ?_);refine wac _ (Qf O (wch q)) (n _ ⟨_,rfl,λh=>?_,λh=>?_⟩)
    ·grind
    grind
  ·subst v;dsimp only;refine wab (λz=>Tt.pure ⟨λh=>X,λh=>absurd (h x e) (F z)⟩) (λz=>wai ?_);refine t (its.length-(k+1)) _ U ⟨k+1,U,rfl,V,λi B y T=>?_⟩
   grind
 ·have c:=wck c;obtain⟨i,B⟩:=wdc N
  grind
def z6r(g:jb)(a:GOk g)(em:W8)(al:W4)(e:al.length=g.2.1.length)(d:Tn (λb=>Qd b g) (λr=>r=some (em,al,()))):
  Tn (λb=>ze6 b g) (λr=>r=al):=by
 have c:=a.r;unfold ze6;refine Waj d waa λr c=>?_;subst c;refine wae rfl (Tt.b1 (Tt.b1 ?_));dsimp only;refine wac _ (mkN U U) (Tt.b1 ?_);refine wac _ rfl (Tt.pure ?_);simp
def jvf(g:jb)(a:GR g):Tn (λd=>zfq d g) (λr=>r=g.1.length):=by unfold zfq;refine Waj a waa λb c=>?_;subst c;exact wae rfl (Tt.pure rfl)
def reC(r:W8)(p:jk):Prop:=r[p.1.toNat]?=some true->∀x∈p.2.1,x.1=true->r[x.2.1.toNat]?=some true
def jal{r:W8}{i q:Nat}(h:r[i]?=some true):(r.set q true)[i]?=some true:=by grind
def RN.up{n m:Nat}{l:W7}(h:RN n l)(hm:n<=m):RN m l:=⟨h.r,λx a=>by have:=h.b x a;omega⟩
def RN.one{n:Nat}{x:Int}(h0:0<=x)(a:x<n):RN n [x]:=⟨by simp[jx],λy b=>X⟩
def zpa{n:Nat}{a b:W7}(e:n<=1000)(c:RN n a)(d:RN n b):Tn (λf=>Qi f a b) (λr=>RN n r/\∀x,x∈r↔x∈a\/x∈b):=zgf e c d
def inT(em:W8)(al:W4)(B:W7)(t:Int):List jj->Prop
 |[]=>t∈B
 |x::l=>if x.1=true then t∈al.getD x.2.1.toNat []\/(em.getD x.2.1.toNat false=true/\inT em al B t l)else t=x.2.1
def foC(em:W8)(al B:W4)(p:jk):Prop:=∀j x,p.2.1[j]?=some x->x.1=true->∀t,inT em al (B.getD p.1.toNat []) t (p.2.1.drop (j+1))->t∈B.getD x.2.1.toNat []
def z9w{B:W4}{z st:Nat}{u:W7}{t:Int}(hz:z<B.length)(h:∀x∈B[z],x∈u)(a:t∈B.getD st []):t∈(B.set z u).getD st []:=by grind
def zhd{em:W8}{al:W4}{B:W7}{t:Int}:∀{its:Wam jj},inT em al B t its↔inF em al t its\/((∀x∈its,x.1=true/\em[x.2.1.toNat]?=some true)/\t∈B)
 |[]=>by simp[inT,inF]
 |x::l=>by have c:=zhd (em:=em) (al:=al) (B:=B) (t:=t) (its:=l);have b:em.getD x.2.1.toNat false=true↔em[x.2.1.toNat]?=some true:=by{grind};cases a:x.1 with|false=>{simp only[inT,inF,a,wdq,if_false];grind}|true=>simp[inT,inF,a,if_true,b,c,wdb,forall_eq_or_imp,true_and];grind
def jaq(g:jb)(x:zad g)(a:GOk g)(em:W8)(al B:W4)(q:Tn (λh=>zj h g) (λr=>r=em))(d:em.length=g.2.1.length)(y:al.length=g.2.1.length)(k:∀l∈al,RN g.1.length l)(w:Tn (λh=>Qd h g) (λr=>r=some (em,al,())))(o:B.length=g.2.1.length)(i:∀l∈B,RN (g.1.length+1) l)
  (p:jk) (j:p∈g.2.2.1):Tn (λh=>Jo h g B p) (λr=>RN (g.1.length+1) r/\∀t,t∈r↔inT em al (B.getD p.1.toNat []) t p.2.1):=by
 have G:=a.t;have z:=a.len p j;have e:=a.items p j;obtain⟨C,I⟩:=a.left p j;unfold Jo;refine Waj (ja5 g x a em al d y k w p.2.1 U e) waa λr⟨m,n⟩=>(Tt.J (λr=>RN (g.1.length+1) r/\∀t,t∈r↔inT em al (B.getD p.1.toNat []) t p.2.1) (λL f=>?_) (λs A=>Tt.pure A))
 refine Waj (jnw g a em q d p.2.1 U e) waa λv H=>(wab (λc=>?_) (λc=>f _ ⟨m.up U,λt=>?_⟩))
 ·have b:p.1.toNat<B.length:=U;refine wac _ (Qf C (wch b)) ?_;refine Waj (zgf U (m.up U) (i _ (wcm b))) waa λu⟨D,F⟩=>f _ ⟨D,λt=>?_⟩;rw[F,n,zhd]
  grind
 ·rw[n,zhd]
  grind
def jnk{α:Type}{b:Nat}{xs ys:Wam α}(h:(xs.length+ys.length)*b<=140737488355328)(a:xs.length+ys.length<=140737488355328):apO b xs ys=some (xs++ys):=by unfold apO;have c:xs.length+ys.length<=maxLen:=wdv a Wah;grind
def jb8{α:Type}{b:Nat}{xs ys a:Wam α}(h:apO b xs ys=some a):xs.length+ys.length<=maxLen/\(xs.length+ys.length)*b<=140737488355328/\a=xs++ys:=zce h
def zlh{α:Type}(eqb:α->α->Bool)(b:Nat)(m:List (α×W7))(k:α)(v:Int):Option (List (α×W7)):=match kIx eqb k (m.map (·.1))with
 |some j=>match m[j]? with
  |some e=>(apO b e.2 [v]).map λa=>m.set j (e.1,a)
  |none=>none
 |none=>(apO b [] [v]).map λa=>m++[(k,a)]
def ple(a b:Int×Int):W8:=[a.1 == b.1,a.2 == b.2]
def plBeq(a b:Int×Int)(h:(ple a b).all id=true):a=b:=by cases a;cases b;simp[ple,List.all_cons,List.all_nil,Bool.and_true,wco,id,beq_iff_eq]at h;grind
abbrev plq(a b:Int×Int):Bool:=(ple a b).all id
abbrev PM:=List ((Int×Int)×List Int)
def zml(i left:Int):W7->PM->Option PM
 |[],m=>some m
 |t::a,m=>(zlh plq 8 m (left,t) i).bind (zml i left a)
def zol(pr:Nat->W7):Nat->W7->PM->Option PM
 |_,[],m=>some m
 |i,a::l,m=>(zml i a (pr i) m).bind (zol pr (i+1) l)
def ltP(a b:Int×Int):Prop:=a.1<b.1\/a.1=b.1/\a.2<b.2
instance (a b:Int×Int):Decidable (ltP a b):=by unfold ltP;infer_instance
def zn6(a:(Int×Int)×Bool)(e:(Int×Int)×W7):(Int×Int)×Bool:=if e.2.length<2\/a.2=true/\ltP a.1 e.1 then a else(e.1,true)
def J8(m:PM):(Int×Int)×Bool:=m.foldl zn6 ((0,0),false)
def ClP(S:(Int×Int)×W7->Prop)(r:(Int×Int)×Bool):Prop:=
 (r=((0,0),false)/\∀e,S e->e.2.length<2)\/(r.2=true/\(∃e,S e/\e.1=r.1/\2<=e.2.length)/\∀e,S e->2<=e.2.length->¬ltP e.1 r.1)
def jmb{a b:Int×Int}(c:¬ltP a b)(d:¬ltP b a):a=b:=by unfold ltP at c d;grind
def ClP.step{S:(Int×Int)×W7->Prop}{r:(Int×Int)×Bool}(h:ClP S r)(e:(Int×Int)×W7):ClP (λx=>S x\/x=e) (zn6 r e):=by
 unfold zn6;split
 .rename_i b;rcases h with⟨rfl,h⟩|⟨c,⟨x,i,j,k⟩,g⟩
  {have d:e.2.length<2:=X;exact .inl ⟨rfl,λy a=>X⟩}
  .refine .inr ⟨c,⟨x,.inl i,j,k⟩,λy a d=>?_⟩;rcases a with a|rfl;{grind}
   .rcases b with b|⟨_,b⟩
    {omega};.unfold ltP at b⊢;omega
 .rename_i b;have d:2<=e.2.length:=by{omega};refine .inr ⟨rfl,⟨e,.inr rfl,rfl,d⟩,λy a f=>?_⟩;rcases a with a|rfl
  .rcases h with⟨rfl,h⟩|⟨c,_,g⟩
   {grind};.have l:=g y a f;have m:¬ltP r.1 e.1:=λh=>b (.inr ⟨c,h⟩);unfold ltP at l m⊢;grind
  .unfold ltP;simp
def zh1(m:PM):ClP (λe=>e∈m) (J8 m):=by suffices ∀(l:PM)(S:(Int×Int)×W7->Prop)(r:(Int×Int)×Bool),ClP S r->ClP (λe=>S e\/e∈l) (l.foldl zn6 r) by{have h:=this m (λ_=>False) ((0,0),false) (.inl ⟨rfl,λe h=>h.elim⟩);have e:(λe=>False\/e∈m)=λe=>e∈m:=V;rw[e]at h;exact h};intro l;induction l with|nil=>{simp}|cons x l a=>intro S r h;have:=a _ _ (h.step x);have e:(λe=>S e\/e∈x::l)=λe=>(S e\/e=x)\/e∈l:=X;grind
def zqk(b:PM)(a:Int×Int):Option Int:=(kIx plq a (b.map (·.1))).bind λj=>(b[j]?).bind λe=>e.2[1]?
def zlr(a:PM):Option ((Int×Int×Int)×Int):=match (J8 a).2 with
 |false=>some ((0,0,0), -1)
 |true=>(zqk a (J8 a).1).map λz=>((15,(J8 a).1.1,(J8 a).1.2),z)
abbrev PE2:=(Int×Int)×List Int
def zlp(a:W4)(e:PE2):W4:=a.set e.1.1.toNat ((a.getD e.1.1.toNat []).set e.1.2.toNat (e.2.headD 0))
def zwj(n w:Nat):W4:=replicate n (replicate w (-1))
def jk9(n w:Nat)(m:PM):W4:=m.foldl zlp (zwj n w)
def z5w(n w:Nat)(e:PE2):Prop:=0<=e.1.1/\e.1.1<n/\0<=e.1.2/\e.1.2<w/\e.2≠[]
structure Tab(n w:Nat)(S:PE2->Prop)(ll:List (List Int)):Prop where
 n:ll.length=n
 w:∀(r:Nat)(row:List Int),ll[r]?=some row->row.length=w
 c:∀(r t:Nat)(row:List Int)(z:Int),ll[r]?=some row->row[t]?=some z->(∃e,S e/\e.1=((r:Int),(t:Int))/\z=e.2.headD 0)\/((∀e,S e->e.1≠((r:Int),(t:Int)))/\z=-1)
def z9m{n w r:Nat}{row:W7}(h:(zwj n w)[r]?=some row):row=replicate w (-1):=by unfold zwj at h;grind
def Tab.start(n w:Nat):Tab n w (λ_=>False) (zwj n w):=by refine⟨by simp[zwj],λr row h=>by rw[z9m h];simp,λr t row z a b=>?_⟩;rw[z9m a,wd7]at b;grind
def Tab.step{n w:Nat}{S:PE2->Prop}{b:W4}(h:Tab n w S b){e:PE2}(m:z5w n w e):Tab n w (λx=>S x\/x=e) (zlp b e):=by
 obtain⟨s,u,v,y,_⟩:=m;have p:e.1.1.toNat<b.length:=by{rw[h.n];omega};have o:b.getD e.1.1.toNat []=b[e.1.1.toNat]:=X;have q:=h.w _ _ (wch p);unfold zlp;rw[o];refine⟨by simpa using h.n,λr row a=>?_,λr t row z a hz=>?_⟩;{rw[wdf]at a;split at a;{grind};.exact h.w r row a}
 .rw[wdf]at a;split at a
  .rename_i i;(first|(split at a<;>cases a)|cases a)
   rw[wdf]at hz;split at hz;{grind}
   .rename_i k;have g:e.1≠((r:Int),(t:Int)):=λh=>k X;rcases h.c r t _ z X hz with⟨j,d,f,l⟩|⟨d,f⟩
    {grind};grind
  .rename_i i;have g:e.1≠((r:Int),(t:Int)):=λh=>i X;rcases h.c r t row z a hz with⟨j,d,f,l⟩|⟨d,f⟩
   {grind};grind
def jl3{n w:Nat}{m:PM}(a:∀e∈m,z5w n w e):Tab n w (λe=>e∈m) (jk9 n w m):=by suffices ∀(l:PM)S(b:W4),(∀e∈l,z5w n w e)->Tab n w S b->Tab n w (λe=>S e\/e∈l) (l.foldl zlp b) by{have h:=this m (λ_=>False) (zwj n w) a (Tab.start n w);have e:(λe=>False\/e∈m)=λe=>e∈m:=V;rw[e]at h;exact h};intro l;induction l with|nil=>{simp}|cons x l c=>intro S b a h;have:=c _ _ (λe d=>a e X) (h.step (a x V));grind
abbrev uc(e:(Int×Int)×List Int):ji×List Int×Unit:=((e.1.1,e.1.2,()),e.2,())
abbrev um(m:PM):List (ji×List Int×Unit):=m.map uc
def je1(a b:Int):∀m,kIx zgv (a,b,()) ((um m).map λe=>e.1)=kIx plq (a,b) (m.map (·.1))
 |[]=>rfl
 |e::m=>by have h:zgv (a,b,()) (uc e).1=plq (a,b) e.1:=rfl;simp[um,wda,kIx,h];have:=je1 a b m;grind
def jwm{m:PM}{j:Nat}:(um m)[j]?=(m[j]?).map uc:=by simp[um]
def z7c{m:PM}{j:Nat}{e:(Int×Int)×W7}(h:m[j]?=some e):atL ((um m).map λe=>e.2.1) (j:Int)=some e.2:=z7b (e:=uc e) X
def jr3{β:Type}(m:PM)(a b v:Int)(F:Wam (ji×W7×Unit)->Wal β):(ja (jcj zgv (a,b,()) (um m)) λz=>ja (ja (atL (z.2.map λe=>e.2.1) (z.1:Int)) λf=>apO 8 f [v]) λb1=>ja (z2u z.2 ((z.1:Int).toNat) (z.1:Int) b1) F)=ja (zlh plq 8 m (a,b) v) λl=>F (um l):=by unfold jcj zlh;rw[je1];cases k:kIx plq (a,b) (m.map (·.1))with|none=>{have g:(um m++[((a,b,()),[],())]:Wam (ji×W7×Unit))=um (m++[((a,b),[])]):=V;have h:(m++[((a,b),([]:W7))])[m.length]?=some ((a,b),[]):=V;have i:(um m).length=m.length:=V;simp only[ja,g,i,z7c h,wcz];cases apO 8 [] [v]with|none=>{rfl}|some z=>simp[wc5];unfold z2u;simp}|some j=>obtain⟨x,d,n⟩:=zco k;rw[wcv]at d;obtain⟨e,c,rfl⟩:=wct.1 d;simp only[ja,c,z7c c,wcz];cases apO 8 e.2 [v]with|none=>{rfl}|some z=>simp[wc5];unfold z2u;simp_all
def uS(s:(Int×Int)×Bool):Bool×ji:=(s.2,(s.1.1,s.1.2,()))
def cstp_u(e:(Int×Int)×W7)(s:(Int×Int)×Bool):znm (uc e) (uS s)=uS (zn6 s e):=by obtain⟨⟨a,b⟩,l⟩:=e;obtain⟨⟨x,y⟩,i⟩:=s;unfold znm zn6 ltP uS;grind
def z5x{β:Type}(d:Nat)(r:ji)(fin:(Bool×(Wam (ji×W7×Unit))×ji×ji×W8)->Wal β)(m:PM):∀(k j:Nat)(s:(Int×Int)×Bool)(mk:W8),j+k=m.length->mk.length=m.length->∃a,z2z (qp d) fin k j ((uS s).1,um m,r,(uS s).2,mk)=fin ((uS ((m.drop j).foldl zn6 s)).1,um m,r,(uS ((m.drop j).foldl zn6 s)).2,a)
 |0,j,s,mk,e,c=>⟨mk,by rw[wdu U];rfl⟩
 |k+1,j,s,mk,e,c=>by have b:j<m.length:=U;obtain⟨a,h⟩:=z5x d r fin m k (j+1) (zn6 s m[j]) (mk.set j true) U (by simpa using c);refine⟨a,?_⟩;rw[wcy b,List.foldl_cons,<- h];show ja (qp d j _) _=_;rw[zj1,zcy (by simp[um,c]),jwm,wch b];simp only[wc5,ja];rw[show((uS s).1,(uS s).2)=uS s from rfl,cstp_u]
def jjk{m:PM}(h:(m.map (·.1)).Nodup):z49 (eqD qi) ((um m).map λe=>e.1)=true:=by induction m with|nil=>{rfl}|cons e m f=>rw[wda,wfg]at h;show(List.all _ _ && z49 _ _)=true;rw[wco];refine⟨wds.2 λy d=>?_,f h.2⟩;obtain⟨z,hz,rfl⟩:=wc6.1 d;obtain⟨w,i,rfl⟩:=wc6.1 hz;have a:e.1≠w.1:=λg=>h.1 X;have:¬(e.1.1=w.1.1/\e.1.2=w.1.2):=λ⟨b,c⟩=>a (Prod.ext b c);show(!(decide (e.1.1=w.1.1) && (decide (e.1.2=w.1.2) && true)))=true;grind
def jhm{β:Type}(d:Nat)(r:ji)(fin:(Bool×(Wam (ji×W7×Unit))×ji×ji×W8)->Wal β){m:PM}(h:(m.map (·.1)).Nodup):∃a,zqo Jy (qp d) fin (false,um m,r,(0,0,()),replicate (um m).length false)=fin ((J8 m).2,um m,r,((J8 m).1.1,(J8 m).1.2,()),a):=by obtain⟨a,b⟩:=z5x d r fin m m.length 0 ((0,0),false) (replicate (um m).length false) U V;refine⟨a,?_⟩;rw[List.drop_zero]at b;have:(uS (m.foldl zn6 ((0,0),false)))=((J8 m).2,((J8 m).1.1,(J8 m).1.2,())):=rfl;rw[this]at b;rw[<- b];unfold zqo;have c:zv2 ⟨3,1,0,1,qi,3,I6,um m,0,replicate (um m).length false⟩=true:=by{unfold zv2;simp only[wci,wew,wes,wco];exact⟨V,jjk h⟩};show(match zv2 _ with|true=>z2z (qp d) fin (um m).length 0 _|false=>none)=_;rw[c];simp[um,wc0];rfl
def zxp{a b:Int×Int}:plq a b=true↔a=b:=⟨plBeq a b,λh=>by subst h;simp[plq,ple]⟩
def z0f{k:Int×Int}:∀{b:Wam (Int×Int)},kIx plq k b=none->k∉b
 |[],_=>V
 |e::f,h=>by unfold kIx at h;split at h;{grind};.rename_i c;have:=z0f (Option.map_eq_none_iff.1 h);intro d;rcases wdb.1 d with a|a;{exact c (zxp.2 a)};grind
structure jcs(C:Int×Int->Int->Prop)(c:Nat)(m:PM):Prop where
 nd:(m.map (·.1)).Nodup
 ne:∀e∈m,e.2≠[]
 len:∀e∈m,e.2.length<=c
 says:∀e∈m,∀i∈e.2,C e.1 i
def zn9(m:PM)(a:Int×Int)(i:Int):Prop:=∃e∈m,e.1=a/\i∈e.2
def add_ok{C:Int×Int->Int->Prop}{c:Nat}{m:PM}{a:Int×Int}{v:Int}(h:jcs C c m)(G:c<=1000000)(I:C a v):∃o,zlh plq 8 m a v=some o/\jcs C (c+1) o/\zn9 o a v/\∀b i,zn9 m b i->zn9 o b i:=by unfold zlh;cases u:kIx plq a (m.map (·.1))with|none=>{have p:=z0f u;rw[jnk V V];refine⟨m++[(a,[v])],rfl,⟨?_,?_,?_,?_⟩,⟨(a,[v]),V,rfl,V⟩,?_⟩;{rw[wc8,wfh];refine⟨h.nd,V,λx r y g=>?_⟩;grind};{intro e f;rcases wcu.1 f with d|d;{exact h.ne e d};grind};{intro e f;rcases wcu.1 f with d|d;{have:=h.len e d;omega};grind};{intro e f;rcases wcu.1 f with d|d;{exact h.says e d};grind};.rintro b i ⟨e,f,z,A⟩;exact⟨e,X,z,A⟩}|some j=>obtain⟨x,r,f⟩:=zco u;have f:=zxp.1 f;subst f;rw[wcv]at r;obtain⟨e,l,s⟩:=wct.1 r;have k:=wcq l;have D:=(wcl.1 l).1;have H:=h.len e k;simp only[l];rw[jnk X X];refine⟨m.set j (e.1,e.2++[v]),rfl,⟨?_,?_,?_,?_⟩,⟨(e.1,e.2++[v]),wcq (i:=j) X,s,V⟩,?_⟩;{have:(m.set j (e.1,e.2++[v])).map (·.1)=m.map (·.1):=by{rw[List.map_set];apply wdp;grind};rw[this];exact h.nd};{intro y g;rcases weg g with d|d;{exact h.ne y d};simp_all};{intro y g;rcases weg g with d|d;{have:=h.len y d;omega};grind};{intro y g;rcases weg g with d|d;{exact h.says y d};.subst d;intro i B;rcases wcu.1 B with t|t;{exact h.says e k i t};grind};.rintro b i ⟨y,g,w,F⟩;obtain⟨n,p⟩:=wdc g;by_cases q:j=n;{subst q;rw[l]at p;cases p;exact⟨(e.1,e.2++[v]),wcq (i:=j) X,w,X⟩};.exact⟨y,wcq (i:=n) X,w,F⟩
def z6g{C:Int×Int->Int->Prop}{i left:Int}:∀{ts:W7}{c:Nat}{m:PM},jcs C c m->c+ts.length<=1000000->(∀t∈ts,C (left,t) i)->∃a,zml i left ts m=some a/\jcs C (c+ts.length) a/\(∀t∈ts,zn9 a (left,t) i)/\∀b j,zn9 m b j->zn9 a b j
 |[],c,m,h,_,_=>⟨m,rfl,h,V,λ_ _ h=>h⟩
 |t::ts,c,m,h,l,d=>by simp[wd4]at l;obtain⟨v,e,f,r,g⟩:=add_ok h U (d t V);obtain⟨q,o,s,u,p⟩:=z6g (ts:=ts) f U λx n=>d x X;refine⟨q,by simp[zml,e,wdx,o],X,λx n=>?_,λb j k=>p b j (g b j k)⟩;grind
def z4u{C:Int×Int->Int->Prop}{pr:Nat->W7}{W:Nat}(q:∀i,(pr i).length<=W):∀{ls:W7}{i c:Nat}{m:PM},jcs C c m->c+W*ls.length<=1000000->(∀k l,ls[k]?=some l->∀t∈pr (i+k),C (l,t) ((i+k:Nat):Int))->∃g,zol pr i ls m=some g/\jcs C (c+W*ls.length) g/\(∀k l,ls[k]?=some l->∀t∈pr (i+k),zn9 g (l,t) ((i+k:Nat):Int))/\∀b j,zn9 m b j->zn9 g b j
 |[],i,c,m,h,_,_=>⟨m,rfl,h,V,λ_ _ h=>h⟩
 |a::ls,i,c,m,h,w,p=>by
  have F:=q i;simp[wd4,Nat.mul_add,wfl]at w;obtain⟨A,s,d,D,u⟩:=z6g (ts:=pr i) h U λt r=>by{simpa using p 0 a rfl t U};have n:jcs C (c+W) A:=⟨d.nd,d.ne,λe o=>by have:=d.len e o;omega,d.says⟩
  obtain⟨B,y,f,G,z⟩:=z4u q (ls:=ls) (i:=i+1) n U λk l x t r=>by{have:=p (k+1) l X t X;grind};refine⟨B,by simp[zol,s,wdx,y],⟨f.nd,f.ne,λe o=>by have:=f.len e o;simp[wd4,Nat.mul_add,wfl];omega,f.says⟩,λk l x t r=>?_,λb j v=>z b j (u b j v)⟩;cases k with|zero=>{grind}|succ k=>grind
def wbm{ι α:Type}{D:Fi ι}{f g:ι->Wal α}{Q:α->Prop}(h:∀i,f i=g i)(a:Tt D g Q):Tt D f Q:=by have:=funext h;grind
structure jad(g:jb)(beh rows:List (List Int))(m:PM):Prop where
 f:Tn (λnn=>Yf nn g) (λr=>r=beh)
 len:rows.length=g.2.2.1.length
 pr:∀(k:Nat)(p:jk)(l:List Int),g.2.2.1[k]?=some p->rows[k]?=some l->Tn (λnn=>Jo nn g beh p) (λr=>r=l)
 bnd:g.2.2.1.length<=1000000/\∀l∈rows,l.length<=1000000
 go:zol (λi=>rows.getD i []) 0 (g.2.2.1.map (·.1)) []=some m
def jil{α:Type}{R:α->W7->Prop}:∀{ps:Wam α},(∀p∈ps,∃l,R p l)->∃rows:W4,rows.length=ps.length/\∀(k:Nat)p l,ps[k]?=some p->rows[k]?=some l->R p l
 |[],_=>⟨[],rfl,λk p l h=>V⟩
 |p::ps,h=>by obtain⟨l,e⟩:=h p V;obtain⟨rows,c,d⟩:=jil (ps:=ps) λq b=>h q X;refine⟨l::rows,X,λk q f b a=>?_⟩;grind
def ji2{β:Type}{g:jb}{b rows:W4}{m:PM}(M:jad g b rows m){Q:β->Prop}(A:Nat->Wam (ji×W7×Unit)->Wal β)(hA:Tn (λF=>A F (um m)) Q):
  Tn (λF=>jm (λ(c,d,e,f,g,h)i=>ifB (decide (f<e)) (ja (atL d f) λj=>ja (Jo F g c j) λk=>jm (λ(l,m,n,o,p,q,r,s,u,v,w)x=>ifB (decide (s<r)) (ja (atL q s) λy=>ja (jcj zgv (w.1,y,()) v) λz=>ja (ja (atL (z.2.map λe=>e.2.1) (z.1:Int)) λY=>apO 8 Y [m]) λb1=>ja (z2u z.2 ((z.1:Int).toNat) (z.1:Int) b1) λZ=>ja (some (w64 (s+1))) λJ=>x (l,m,n,o,p,q,r,J,u,Z,w)) (ja (some (w64 (p+1))) λb4=>i (l,n,o,b4,u,v))) F (c,f,d,e,f,k,(k.length:Int),0,g,h,j)) (A F h)) F (b,g.2.2.1,(g.2.2.1.length:Int),0,g,([]:Wam (ji×W7×Unit)))) Q:=by
 have hb:=M.bnd.1;refine Tt.loop (λk st=>∃(n:Nat)(N:PM),st=(b,g.2.2.1,(g.2.2.1.length:Int),(n:Int),g,um N)/\n<=g.2.2.1.length/\k=g.2.2.1.length-n/\zol (λi=>rows.getD i []) n ((g.2.2.1.map (·.1)).drop n) N=some m) g.2.2.1.length waa ⟨0,[],rfl,wdy _,rfl,by rw[List.drop_zero];exact M.go⟩ ?_;rintro k _ ⟨n,N,rfl,hn,rfl,B⟩ nx R;dsimp only;refine wab (λhc=>?_) λhc=>?_
 ·have D:n<g.2.2.1.length:=X;have I:n<rows.length:=by rw[M.len];omega
  have e1:(g.2.2.1.map (·.1)).drop n=(g.2.2.1[n]).1::(g.2.2.1.map (·.1)).drop (n+1):=by rw[wcy X];simp
  have e2:rows.getD n []=rows[n]:=X;have a8:=M.bnd.2 _ (wcm I);rw[e1]at B;obtain⟨S,ha,G⟩:=wdi.1 (show(zml (n:Int) (g.2.2.1[n]).1 (rows.getD n []) N).bind _=some m from B);rw[e2]at ha;refine Tt.at D (Waj (M.pr n _ _ (wch D) (wch I)) waa.fst λts L=>?_);subst L;refine Tt.loop (λk st=>∃(s:Nat)(O:PM),st=(b,(n:Int),g.2.2.1,(g.2.2.1.length:Int),(n:Int),rows[n],((rows[n]).length:Int),(s:Int),g,um O,g.2.2.1[n])/\s<=(rows[n]).length/\k=(rows[n]).length-s/\zml (n:Int) (g.2.2.1[n]).1 ((rows[n]).drop s) O=some S) (rows[n]).length waa.fst ⟨0,N,rfl,wdy _,rfl,X⟩ ?_;rintro k2 _ ⟨s,O,rfl,hs,rfl,t⟩ a9 H;dsimp only;refine wab (λP=>?_) λP=>?_
  ·have a:s<(rows[n]).length:=X;refine Tt.at a (wbm (λi=>jr3 O _ _ _ _) ?_);rw[wcy a]at t;obtain⟨T,h4,h5⟩:=wdi.1 (show(zlh plq 8 O ((g.2.2.1[n]).1,(rows[n])[s]) (n:Int)).bind _=some S from t);refine wac T h4 (Tt.b1 ?_);rw[show w64 ((s:Int)+1)=((s+1:Nat):Int) by rw[zry U U];rfl];exact H _ _ U ⟨s+1,T,rfl,a,rfl,h5⟩
  ·have C:s=(rows[n]).length:=X;subst C;rw[wef]at t;cases t;refine Tt.b1 ?_;rw[show w64 ((n:Int)+1)=((n+1:Nat):Int) by rw[zry U U];rfl];exact Tt.fst (R _ _ U ⟨n+1,S,rfl,D,rfl,G⟩)
 ·have C:n=g.2.2.1.length:=X;subst C;rw[wdu V]at B;cases B;exact Tt.fst hA
def Tt.val{ι α:Type}{D:Fi ι}{f:ι->Wal α}{Q:α->Prop}(h:Tt D f Q):∃r,Tt D f (λx=>x=r)/\Q r:=let ⟨r,a,b⟩:=h;⟨r,⟨r,a,rfl⟩,b⟩
structure Kn(g:jb)(em re:List Bool)(al B:List (List Int)):Prop where
 hE:Tn (λnn=>zj nn g) (λr=>r=em)
 hel:em.length=g.2.1.length
 emc:∀p∈g.2.2.1,emC em p
 hRe:Tn (λnn=>Jg nn g) (λr=>r=re)
 hrl:re.length=g.2.1.length
 rest:re[g.2.2.2.1.toNat]?=some true
 recl:∀p∈g.2.2.1,reC re p
 hK:Tn (λnn=>Qd nn g) (λr=>r=some (em,al,()))
 hl:al.length=g.2.1.length
 hrn:∀l∈al,RN g.1.length l
 fic:∀p∈g.2.2.1,fiC em al p
 hF:Tn (λnn=>Yf nn g) (λr=>r=B)
 hBl:B.length=g.2.1.length
 hBr:∀l∈B,RN (g.1.length+1) l
 hBe:(g.1.length:Int)∈B.getD g.2.2.2.1.toNat []
 foc:∀p∈g.2.2.1,re[p.1.toNat]?=some true->foC em al B p
def plC(g:jb)(em:W8)(al B:W4)(a:Int×Int)(i:Int):Prop:=∃(k:Nat)(p:jk),i=(k:Int)/\g.2.2.1[k]?=some p/\a.1=p.1/\0<=a.2/\a.2<(g.1.length:Int)+1/\inT em al (B.getD p.1.toNat []) a.2 p.2.1
structure jdl(g:jb)(em:List Bool)(al B:List (List Int))(m:PM):Prop where
 pm:jcs (plC g em al B) 1000000 m
 has:∀(k:Nat)(p:jk),g.2.2.1[k]?=some p->∀t,inT em al (B.getD p.1.toNat []) t p.2.1->zn9 m (p.1,t) (k:Int)
def jb3{g:jb}{em re:W8}{al B:W4}(y:zad g)(j:GOk g)(f:Kn g em re al B):∃rows m,jad g B rows m/\(∀l∈rows,RN (g.1.length+1) l)/\jdl g em al B m:=by
 have o:=j.t;have d:=j.p;obtain⟨rows,A,s⟩:=jil λp d=>(jaq g y j em al B f.hE f.hel f.hl f.hrn f.hK f.hBl f.hBr p d).val;have a:∀l∈rows,RN (g.1.length+1) l:=λl h=>by{obtain⟨i,r⟩:=wdc h;have z:=(wcl.1 r).1;exact(s i _ l (wch U) r).2.1};have n:∀k p,g.2.2.1[k]?=some p->RN (g.1.length+1) (rows.getD k [])/\∀t,t∈rows.getD k []↔inT em al (B.getD p.1.toNat []) t p.2.1:=λk p d=>by{grind};obtain⟨m,w,q,D,_⟩:=z4u (C:=plC g em al B) (pr:=λi=>rows.getD i []) (W:=65) (λi=>by
  simp[List.getD];cases r:rows[i]? with
  |none=>simp
  |some l=>have:=(a l (wcq r)).len;grind) (ls:=g.2.2.1.map (·.1)) (c:=0) (m:=[]) ⟨V,V,V,V⟩ X (λk l h t o=>by
   rw[wcv]at h;obtain⟨p,d,rfl⟩:=wct.1 h;rw[wd1]at o⊢;obtain⟨u,v⟩:=n k p d;have:=u.b t o;exact⟨k,p,rfl,d,rfl,this.1,U,(v t).1 o⟩)
 refine⟨rows,m,⟨f.hF,A,λk p l d h=>(s k p l d h).1,⟨U,λl h=>by have:=(a l h).len;omega⟩,w⟩,a,⟨q.nd,q.ne,λe x=>?_,q.says⟩,λk p d t o=>?_⟩;{have:=q.len e x;grind};grind
def NC(g:jb)(em:W8)(al B:W4):Prop:=∀(k b:Nat)(p a:jk),g.2.2.1[k]?=some p->g.2.2.1[b]?=some a->p.1=a.1->∀t,inT em al (B.getD p.1.toNat []) t p.2.1->inT em al (B.getD a.1.toNat []) t a.2.1->k=b
def zmr{α β:Type}{f:α->β}:∀{l:Wam α},(l.map f).Nodup->∀{x y:α},x∈l->y∈l->f x=f y->x=y
 |[],_,x,y,d,_,_=>X
 |a::l,h,x,y,d,g,e=>by rw[wda,wfg]at h;rcases wdb.1 d with b|b;{grind};.rcases wdb.1 g with c|c;{grind};.exact zmr h.2 b c e
def nc_of{g:jb}{em:W8}{al B:W4}{m:PM}(h:jdl g em al B m)(u:(J8 m).2=false):NC g em al B:=by
 intro k q p r o c e t j n;obtain⟨x,i,w,z⟩:=h.has k p o t j;obtain⟨y,s,A,C⟩:=h.has q r c t n;have d:=zmr h.pm.nd i s X;subst d;rcases zh1 m with⟨_,f⟩|⟨f,_⟩
 .have:=f x i;match v:x.2 with
  |[]=>grind
  |[a]=>
   grind
  |a::b::l=>grind
 grind
def je0{g:jb}{em:W8}{al B:W4}{m:PM}(h:jdl g em al B m):∃r,zlr m=some r/\(r.1.1=0->NC g em al B):=by
 unfold zlr;cases k:(J8 m).2 with
 |false=>exact⟨_,rfl,λ_=>nc_of h k⟩
 |true=>
  rcases zh1 m with⟨o,_⟩|⟨_,⟨e,f,p,i⟩,_⟩
  {grind};.have:∃z,zqk m (J8 m).1=some z:=by{unfold zqk;cases c:kIx plq (J8 m).1 (m.map (·.1))with|none=>{exact absurd X (z0f c)}|some j=>obtain⟨x,d,a⟩:=zco c;have a:=zxp.1 a;rw[wcv]at d;obtain⟨n,b,l⟩:=wct.1 d;have:=zmr h.pm.nd (wcq b) f X;subst this;simp[wdx,b];exact⟨_,wch i⟩};simp_all
def jtl{m:PM}{a:Int×Int}:kIx zgv (a.1,a.2,()) ((um m).map λe=>e.1)=kIx plq a (m.map (·.1)):=je1 a.1 a.2 m
def jti{g:jb}{i rows:W4}{m:PM}{r:(Int×Int×Int)×Int}(B:GR g)(t:jad g i rows m)(F:(m.map (·.1)).Nodup)(c:zlr m=some r):Tn (λd=>Qk d g) (λx=>x=((r.1.1,r.1.2.1,r.1.2.2,()),r.2,())):=by
 unfold Qk zgl;refine Waj B waa λb o=>?_;subst o;refine wae rfl (Waj t.f waa λb o=>?_);subst o;refine ji2 t (λd h=>zqo Jy (qp d) _ (false,h,(0,0,()),(0,0,()),replicate h.length false)) ?_;let a:(Bool×(Wam (ji×W7×Unit))×ji×ji×W8)->Wal (jc×Int×Unit):=λ(u,l,H,n,I)=>ifB (!u) (some ((0,0,0,()),(-1),())) (ja (kIx zgv n (l.map λe=>e.1)) λp=>ja (ja (atL (l.map λe=>e.2.1) (p:Int)) λv=>jq v.length 1) λw=>ja (ja (atL (l.map λe=>e.2.1) (p:Int)) λy=>atL y w) λA=>some ((15,n.1,n.2.1,()),A,()))
 refine wbm (g:=λ_=>a ((J8 m).2,um m,(0,0,()),((J8 m).1.1,(J8 m).1.2,()),[])) (λd=>by
  obtain⟨G,e⟩:=jhm d (0,0,()) a F;exact e) ?_
 show Tt wa1 (λ_=>ifB (!(J8 m).2) _ _) _;unfold zlr at c;cases q:(J8 m).2 with|false=>{rw[q]at c;cases c;exact wah rfl (Tt.pure rfl)}|true=>rw[q]at c;obtain⟨z,hz,rfl⟩:=wct.1 c;unfold zqk at hz;obtain⟨j,C,hz⟩:=wdi.1 hz;obtain⟨e,s,hz⟩:=wdi.1 hz;have D:=(wcl.1 hz).1;refine wae rfl (wac j (by rw[jtl];exact C) ?_);refine wac (1:Int) (by rw[z7c s];exact vn (k:=1) D) (wac z (by rw[z7c s];exact Qf (z:=1) Wah hz) (Tt.pure rfl))
def z50{β:Type}(f:Nat)(fin:(W4×W8×(Wam (ji×W7×Unit)))->Wal β){n w:Nat}{m:PM}(hm:∀e∈m,z5w n w e):∀k j(out:W4)(mk:W8),j+k=m.length->mk.length=m.length->out.length=n->(∀row∈out,row.length=w)->∃c,z2z (qe f) fin k j (out,mk,um m)=fin ((m.drop j).foldl zlp out,c,um m)
 |0,j,out,mk,q,_,_,_=>⟨mk,by rw[wdu U];rfl⟩
 |k+1,j,out,mk,q,r,y,s=>by have b:j<m.length:=U;obtain⟨t,z,u,A,B⟩:=hm _ (wcm b);have g:(m[j]).1.1.toNat<out.length:=U;have i:=s _ (wcm g);obtain⟨v,l,d⟩:∃v l,(m[j]).2=v::l:=by{cases x:(m[j]).2 with|nil=>{grind}|cons v l=>simp};have o:zlp out m[j]=out.set (m[j]).1.1.toNat ((out[(m[j]).1.1.toNat]).set (m[j]).1.2.toNat v):=by{unfold zlp;grind};have a:(zlp out m[j]).length=n/\∀row∈zlp out m[j],row.length=w:=by{grind};obtain⟨c,h⟩:=z50 f fin hm k (j+1) (zlp out m[j]) (mk.set j true) U X a.1 a.2;refine⟨c,?_⟩;rw[wcy b,List.foldl_cons,<- h];show ja (qe f j _) _=_;rw[zkc,zcy X,jwm,wch b];simp[wc5,ja,d];have p:atL (v::l) 0=some v:=rfl;simp[p];rw[zp4 (wch g) t u U,o]
def jsx{β:Type}(b:Nat)(fin:(W4×W8×(Wam (ji×W7×Unit)))->Wal β){n w:Nat}{m:PM}(hm:∀e∈m,z5w n w e)(h:(m.map (·.1)).Nodup):∃a,zqo Jf (qe b) fin (zwj n w,replicate (um m).length false,um m)=fin (jk9 n w m,a,um m):=by
 obtain⟨a,c⟩:=z50 b fin hm m.length 0 (zwj n w) (replicate (um m).length false) U V (by simp[zwj]) (λrow g=>by
  obtain⟨i,d⟩:=wdc g;rw[z9m d];simp)
 refine⟨a,?_⟩;rw[List.drop_zero]at c;rw[show jk9 n w m=m.foldl zlp (zwj n w)from rfl,<- c];unfold zqo;have f:zv2 ⟨1,1,2,1,qi,3,I6,um m,0,replicate (um m).length false⟩=true:=by{unfold zv2;simp only[wci,wew,wes,wco];exact⟨V,jjk h⟩};show(match zv2 _ with|true=>z2z (qe b) fin (um m).length 0 _|false=>none)=_;grind
def jo0(g:jb)(m:PM):Prop:=∀e∈m,z5w g.2.1.length (g.1.length+1) e
def jt7{g:jb}{M rows:W4}{m:PM}(hR:GR g)(G:GOk g)(hv:jad g M rows m)(hn:(m.map (·.1)).Nodup)(ht:jo0 g m):Tn (λc=>Jt c g) (λx=>x=if(J8 m).2=true then([],15,())else(jk9 g.2.1.length (g.1.length+1) m,0,())):=by
 have c9:=G.r;have e0:=G.t;unfold Jt zgp;refine Waj hR waa λb Q=>?_;subst Q;refine wae rfl (Waj hv.f waa λb Q=>?_);subst Q;refine ji2 hv (λc h=>zqo Vg (Va c) _ (false,h,(0,0,()),(0,0,()),replicate h.length false)) ?_;let l:Nat->(Bool×(Wam (ji×W7×Unit))×ji×ji×W8)->Wal (W4×Int×Unit):=λc(e1,e2,e3,e4,e5)=>ifB e1 (some ([],15,())) (ja (some (g.2.1.length:Int)) λe6=>ja (mkO 24 e6) λe7=>jm (σ:=Int×Int×jb×(Wam (ji×W7×Unit))×W4) (λ(e8,B,f0,N,O)f3=>ifB (decide (B<e8)) (ja (some (w64 ((f0.1.length:Int)+1))) λf4=>ja (mkO 8 f4) λf5=>ja (jq O.length B) λf6=>ja (yi O f6 (replicate f5 (0:Int))) λL=>ja (jq L.length B) λf8=>ja (atL L f8) λf9=>ja (atL L f8) λg0=>jm (σ:=Int×Int×Int×Int×Int×jb×(Wam (ji×W7×Unit))×W4) (λ(g1,g2,g3,g4,P,g6,g7,A)g9=>ifB (decide (P<g4)) (ja (jq A.length g1) λh0=>ja (atL A h0) λh1=>ja (ja (atL A h0) λh2=>jq h2.length P) λh3=>ja (ja (atL A h0) λh4=>ja (yi h4 h3 (-1)) λh5=>some (A.set h0.toNat h5)) λh6=>ja (some (w64 (P+1))) λh7=>g9 (g1,g2,g3,g4,h7,g6,g7,h6)) (ja (some (w64 (g3+1))) λh8=>f3 (g2,h8,g6,g7,A))) c (B,e8,B,(g0.length:Int),0,f0,N,L)) (zqo Jf (qe c) (λ(j6,j7,j8)=>some (j6,0,())) (O,(replicate N.length false),N))) c (((replicate e7 ([]:W7)).length:Int),0,g,e2,(replicate e7 ([]:W7))))
 refine wbm (g:=λc=>l c ((J8 m).2,um m,(0,0,()),((J8 m).1.1,(J8 m).1.2,()),[])) (λc=>by
  obtain⟨a1,e⟩:=jhm c (0,0,()) (l c) hn;exact e) ?_
 refine wab (λw=>?_) λw=>?_;{rw[if_pos w];exact Tt.pure rfl};rw[if_neg (by rw[w];simp)];refine Tt.b1 (wac g.2.1.length (mkN U U) ?_);have hw:w64 ((g.1.length:Int)+1)=((g.1.length+1:Nat):Int):=by{rw[zry U U];omega};refine Tt.loop (λk st=>∃(n:Nat)(out:W4),st=(((replicate g.2.1.length ([]:W7)).length:Int),(n:Int),g,um m,out)/\n<=g.2.1.length/\k=g.2.1.length-n/\out.length=g.2.1.length/\∀i,i<n->out[i]?=some (replicate (g.1.length+1) (-1))) g.2.1.length waa ⟨0,_,rfl,wdy _,rfl,V,λi z=>U⟩ ?_;rintro k _ ⟨n,out,rfl,d3,rfl,Y,s⟩ nx T;dsimp only;refine wab (λw=>?_) λw=>?_
 .have S:n<g.2.1.length:=by{have:=wcj w;simp at this;omega};have a:n<out.length:=U;refine Tt.b1 (wac (g.1.length+1) (by rw[hw];exact mkN U U) ?_);refine wac _ (vn a) (wac _ (yw _ a) ?_);refine wac _ (vn (by simpa using a)) (wac _ (atN (by simpa using a)) (wac _ (atN (by simpa using a)) ?_));simp only[List.getElem_set_self];refine Tt.loop (φ:=λp:Nat×Nat=>p.1) (λk st=>∃(t:Nat)(u:W4)(row:W7),st=((n:Int),((replicate g.2.1.length ([]:W7)).length:Int),(n:Int),((replicate (g.1.length+1) (0:Int)).length:Int),(t:Int),g,um m,u)/\t<=g.1.length+1/\k=g.1.length+1-t/\u.length=g.2.1.length/\(∀i,i<n->u[i]?=some (replicate (g.1.length+1) (-1)))/\u[n]?=some row/\row.length=g.1.length+1/\∀i,i<t->row[i]?=some (-1)) (g.1.length+1) waa.fst
   ⟨0,_,replicate (g.1.length+1) 0,rfl,U,U,by simpa using Y,λi z=>by rw[wer U];exact s i z,wen a,V,λi z=>U⟩ ?_
  rintro k2 _ ⟨t,u,row,rfl,d5,rfl,F,d,j,J,I⟩ d9 D;have C:=(wcl.1 j).1;dsimp only;refine wab (λy=>?_) λy=>?_;{have o:t<row.length:=by{have:=wcj y;simp at this;omega};have v:atL u (n:Int)=some row:=Qf U (by simpa using j);refine wac _ (vn C) (wac _ v (wac (t:Int) (by rw[v];exact vn o) ?_));refine wac (u.set n (row.set t (-1))) (by rw[v];simp only[ja,yw (-1) o,wcz]) (Tt.b1 ?_);rw[show w64 ((t:Int)+1)=((t+1:Nat):Int) by rw[zry U U];omega];refine D _ _ U ⟨t+1,_,row.set t (-1),rfl,U,rfl,by simpa using F,λi z=>by rw[wer U];exact d i z,wen C,by simpa using J,λi z=>?_⟩;rw[wdf];by_cases e:t=i;{rw[if_pos e,if_pos U]};.rw[if_neg e];exact I i U};.have R:t=g.1.length+1:=by{have:=wck y;simp at this;omega};refine Tt.b1 ?_;rw[show w64 ((n:Int)+1)=((n+1:Nat):Int) by rw[zry U U];omega];refine Tt.fst (T _ _ U ⟨n+1,u,rfl,S,rfl,F,λi z=>?_⟩);rcases Nat.lt_or_ge i n with h|h;{exact d i h};.have:i=n:=U;subst this;rw[j];congr 1;apply wdp ;intro q;by_cases Z:q<g.1.length+1;{rw[I q U,wd7,if_pos Z]};.rw[wee U,wee W]
 .have R:n=g.2.1.length:=by{have:=wck w;simp at this;omega};have H:out=zwj g.2.1.length (g.1.length+1):=by{unfold zwj;apply wdp;intro q;by_cases Z:q<g.2.1.length;{rw[s q U,wd7,if_pos Z]};.rw[wee U,wee W]};subst H;refine wbm (g:=λ_=>some (jk9 g.2.1.length (g.1.length+1) m,0,())) (λp=>by
   obtain⟨a1,e⟩:=jsx p.1 (λ((j6,j7,j8):W4×W8×(Wam (ji×W7×Unit)))=>(some (j6,0,()):Wal (W4×Int×Unit))) ht hn;exact e) (Tt.pure rfl)
def z4z{g:jb}{em:W8}{al B:W4}{m:PM}(b:GOk g)(h:jdl g em al B m):jo0 g m:=λe c=>by have a:=h.pm.ne e c;obtain⟨i,l,q⟩:∃i l,e.2=i::l:=by{cases o:e.2 with|nil=>{grind}|cons i l=>simp};obtain⟨k,p,_,f,j,d,n,_⟩:=h.pm.says e c i X;obtain⟨r,s⟩:=b.left p (wcq f);exact⟨U,U,d,U,a⟩
def jf9(g:jb)(x:jj)(r:W8)(k:r.length=g.2.1.length)(i:zdn g x):Tn (λj=>Zi j x r) (λb=>b=true↔(x.1=true->r[x.2.1.toNat]?=some true)):=by unfold Zi;refine Tt.J (λb=>b=true↔(x.1=true->r[x.2.1.toNat]?=some true)) (λl a=>?_) (λs h=>Tt.pure h);refine Tt.b1 (wab (λc=>a _ ?_) (λc=>?_));{grind};have c:x.1=true:=X;obtain⟨d,e⟩:=i;rw[if_pos c]at e;have f:x.2.1.toNat<r.length:=U;refine wac _ (Qf d (wch f)) (a _ ?_);grind
end
end Go.Proofs.YtigdmmgklieofaaGreat.T
namespace Go.Proofs.YtigdmmgklieofaaGreat
noncomputable section
open _root_.Go.Proofs.Tryz
set_option maxRecDepth 100000
set_option maxHeartbeats 8000000
set_option linter.unusedVariables false
set_option linter.unusedSimpArgs false
set_option linter.defProp false
open List (replicate range)
open Go Go.RowKit L
inductive Rch(E:Nat->Nat->Prop)(S:Nat->Prop):Nat->Prop
 |base {i:Nat}:S i->Rch E S i
 |step {i j:Nat}:Rch E S i->E i j->Rch E S j
def onB(l:List Bool)(i:Nat):Prop:=l[i]?=some true
def z7n{l:Wam Bool}{i:Nat}(h:onB l i):i<l.length:=(wcl.1 h).1
def yr{l:Wam Bool}{i j:Nat}(hi:i<l.length):onB (l.set i true) j↔i=j\/onB l j:=by unfold onB;grind
def zmu{n i:Nat}:¬onB (replicate n false) i:=by unfold onB;grind
def offs(l:List Bool):Nat:=l.count false
def zxz(l:Wam Bool):offs l<=l.length:=List.count_le_length
def zm6(b:Bool)(l:Wam Bool):offs (b::l)=offs l+(if b then 0 else 1):=by unfold offs;grind
def zl7:∀{l:Wam Bool}{i:Nat},l[i]?=some false->offs (l.set i true)+1=offs l
 |[],i,h=>X
 |b::l,0,h=>by simp at h;subst h;simp[zm6]
 |b::l,i+1,h=>by simp[List.getElem?_cons_succ]at h;have:=zl7 h;simp[List.set_cons_succ,zm6];omega
def LeB(a b:List Bool):Prop:=a.length=b.length/\∀i,onB a i->onB b i
def LeB.refl(a:Wam Bool):LeB a a:=⟨rfl,λ_ h=>h⟩
def LeB.trans{a b c:Wam Bool}(h:LeB a b)(d:LeB b c):LeB a c:=⟨h.1.trans d.1,λi e=>d.2 i (h.2 i e)⟩
def LeB.set{a:Wam Bool}{i:Nat}(hi:i<a.length):LeB a (a.set i true):=⟨V,λj b=>(yr hi).2 (.inr b)⟩
def jp6{a b:Wam Bool}(c:a.length=b.length)(h:∀i,onB a i↔onB b i):a=b:=by refine wfa c λi d e=>?_;have:=h i;unfold onB at this;simp_all
def LeB.antisymm{a b:Wam Bool}(h:LeB a b)(c:LeB b a):a=b:=jp6 h.1 λi=>⟨h.2 i,c.2 i⟩
def LeB.offs:∀{a b:Wam Bool},LeB a b->a=b\/offs b<offs a:=by
 intro a;induction a with
 |nil=>intro b h;cases b with
  |nil=>simp
  |cons x b=>exact absurd h.1 V
 |cons x a f=>
  intro b h;cases b with
  |nil=>exact absurd h.1 V
  |cons y b=>
   have c:LeB a b:=⟨by simpa using h.1,λi d=>by have:=h.2 (i+1);unfold onB at *;grind⟩
   have h0:x=true->y=true:=λe=>by have:=h.2 0;unfold onB at this;grind
   rw[zm6,zm6]
   grind
def Zj(n:Nat)(E:Nat->Nat->Prop)(S:Nat->Prop):List Bool:=by classical exact(range n).map λi=>decide (Rch E S i)
def zav(n:Nat)(E:Nat->Nat->Prop)(S:Nat->Prop):(Zj n E S).length=n:=by unfold Zj;simp
def z6z{n:Nat}{E:Nat->Nat->Prop}{S:Nat->Prop}{i:Nat}:onB (Zj n E S) i↔i<n/\Rch E S i:=by
 classical
 unfold onB Zj;grind
def z64{n:Nat}{E:Nat->Nat->Prop}{S:Nat->Prop}{l:Wam Bool}(a:l.length=n)(d:∀i,onB l i->Rch E S i)(b:∀i,S i->onB l i)(c:∀i j,onB l i->E i j->onB l j):l=Zj n E S:=by
 refine jp6 (by rw[a,zav]) λi=>⟨λh=>z6z.2 ⟨a▸z7n h,d i h⟩,λh=>?_⟩
 have:=(z6z.1 h).2;clear h;induction this with|base h=>{exact b _ h}|step _ h e=>exact c _ _ e h
structure Round(E:Nat->Nat->Prop)(S:Nat->Prop)(a b:List Bool):Prop where
 le:LeB a b
 sound:∀i,onB b i->Rch E S i
 closed:a=b->(∀i,S i->onB a i)/\∀i j,onB a i->E i j->onB a j
def Round.next{n:Nat}{E:Nat->Nat->Prop}{S:Nat->Prop}{a b:Wam Bool}{m k:Nat}(h:Round E S a b)(f:a.length=n)(c:a=Zj n E S\/offs a+k<=m):b=Zj n E S\/offs b+(k+1)<=m:=by rcases c with c|c;{left;refine h.le.antisymm ⟨h.le.1.symm,λi d=>?_⟩ |>.symm.trans c;rw[c];exact z6z.2 ⟨f▸(h.le.1▸z7n d),h.sound i d⟩};.rcases h.le.offs with e|e;{left;obtain⟨g,j⟩:=h.closed e;subst e;exact z64 f h.sound g j};.right;omega
end
end Go.Proofs.YtigdmmgklieofaaGreat
namespace Go.Proofs.YtigdmmgklieofaaGreat.T
noncomputable section
open _root_.Go.Proofs.Tryz
set_option maxRecDepth 100000
set_option maxHeartbeats 8000000
set_option linter.unusedVariables false
set_option linter.unusedSimpArgs false
set_option linter.defProp false
open List (replicate range)
open Go Go.RowKit L
inductive ReG(g:jb):Nat->Prop
 |start:ReG g g.2.2.2.1.toNat
 |step {p:jk}{x:jj}:p∈g.2.2.1->ReG g p.1.toNat->x∈p.2.1->x.1=true->ReG g x.2.1.toNat
structure ROk(g:jb)(st:Nat)(r:List Bool):Prop where
 a:r[st]?=some true
 b:∀i,r[i]?=some true->ReG g i
def ROk.set{g:jb}{st:Nat}{r:W8}(h:ROk g st r){p:jk}{x:jj}(j:p∈g.2.2.1)(f:r[p.1.toNat]?=some true)(k:x∈p.2.1)(d:x.1=true){z:Nat}(hz:z=x.2.1.toNat):ROk g st (r.set z true):=by refine⟨jal h.a,λi c=>?_⟩;rw[wdf]at c;split at c;{rename_i e;subst e;subst hz;exact .step j (h.b _ f) k d};.exact h.b i c
def jf0(g:jb)(hg:zad g)(hR:GR g)(G:GOk g):Tn (λnn=>Jg nn g) (λr=>r.length=g.2.1.length/\r[g.2.2.2.1.toNat]?=some true/\(∀p∈g.2.2.1,reC r p)/\∀i,r[i]?=some true->ReG g i):=by
 unfold Jg;refine Waj hR waa λb hb=>?_;subst hb;refine wae rfl ?_;have hp:=hg.p;refine Tt.b1 (wac _ (mkN hg.r U) ?_);obtain⟨st,a6⟩:∃st:Nat,g.2.2.2.1=st:=⟨g.2.2.2.1.toNat,by have:=G.start;omega⟩
 have e8:=G.start.2;rw[a6];have L:st<(replicate g.2.1.length false).length:=X;refine wac _ (vn L) (wac _ (yw true L) ?_);rw[wcz];have h0:∀i,((replicate g.2.1.length false).set st true)[i]?=some true->ReG g i:=λi h=>by{rw[wdf]at h;split at h;{rename_i e;subst e;have:=ReG.start (g:=g);rwa [a6,wcz]at this};.rw[wd7]at h;split at h<;>cases h};refine Tt.loop (λm s=>∃(d:Bool)(r:W8),m=2*yx r+(if d=true then 1 else 0)/\s=(g.2.2.1,d,r)/\r.length=g.2.1.length/\ROk g st r/\(d=false->∀p∈g.2.2.1,reC r p)) (2*yx ((replicate g.2.1.length false).set st true)+1) waa ⟨true,_,rfl,rfl,V,⟨by rw[wdf];simp at L;simp[L],λi h=>h0 i h⟩,λh=>by cases h⟩ λm s⟨d,r,hm,H,hl,Q,b7⟩ nx a4=>?_;subst H;dsimp only;refine wab (λc=>?_) (λc=>Tt.pure ⟨hl,Q.a,b7 c,Q.b⟩);subst c;rw[if_pos rfl]at hm;refine Tt.loop (λm s=>∃(k:Nat)(d:Bool)(l:W8),k<=g.2.2.1.length/\m=g.2.2.1.length-k/\s=(g.2.2.1,d,g.2.2.1,(g.2.2.1.length:Int),(k:Int),l)/\l.length=g.2.1.length/\ROk g st l/\(d=true->yx l<yx r)/\(d=false->l=r/\∀i,i<k->∀p,g.2.2.1[i]?=some p->reC r p)) g.2.2.1.length waa.fst ⟨0,false,r,U,Wab,rfl,hl,Q,λh=>X,λ_=>⟨rfl,λi hi=>U⟩⟩ λm2 s⟨k,d,l,hk,e5,H,D,v,ht,hf⟩ ny c4=>?_;subst H;dsimp only;refine wab (λc=>?_) (λc=>?_)
 .have c:=wcj c;have N:k<g.2.2.1.length:=U;have t:g.2.2.1[k]∈g.2.2.1:=wcm N;refine wac _ (atN N) ?_;have Z:g.2.2.1[k]?=some g.2.2.1[k]:=wch N;obtain⟨p,ep⟩:∃p,g.2.2.1[k]=p:=⟨_,rfl⟩
  rw[ep]at t Z⊢;obtain⟨l0,l1⟩:=G.left p t;have b8:=G.items p t;have e7:=G.len p t;obtain⟨q,hq⟩:∃q:Nat,p.1=q:=⟨p.1.toNat,U⟩
  refine Tt.J (λs=>∃(d:Bool)(l:W8),s=(g.2.2.1,d,g.2.2.1,(g.2.2.1.length:Int),(k:Int),l)/\l.length=g.2.1.length/\ROk g st l/\(d=true->yx l<yx r)/\(d=false->l=r/\∀i,i<k+1->∀p,g.2.2.1[i]?=some p->reC r p)) (λnz a5=>?_) (λs⟨d,l,H,D,v,ht,hf⟩=>?_)
  .refine Tt.loop (λm s=>∃(i:Nat)(f:Bool)(n:W8),i<=p.2.1.length/\m=p.2.1.length-i/\s=(f,p.2.1,(p.2.1.length:Int),(i:Int),n,p)/\n.length=g.2.1.length/\ROk g st n/\(f=true->yx n<yx l)/\(f=false->n=l/\(l[q]?=some true->∀j,j<i->∀x,p.2.1[j]?=some x->x.1=true->l[x.2.1.toNat]?=some true))) p.2.1.length waa.fst.fst ⟨0,false,l,U,U,rfl,D,v,λh=>X,λ_=>⟨rfl,λ_ j hj=>U⟩⟩ λm3 s⟨i,f,n,hi,e6,H,A,o,I,C⟩ nw c3=>?_;subst H;dsimp only;have P:q<n.length:=U;refine wab (λc=>?_) (λc=>?_)
   .have c:=wcj c;have M:i<p.2.1.length:=U;have R:p.2.1[i]∈p.2.1:=wcm M;have a0:p.2.1[i]?=some p.2.1[i]:=wch M;refine Tt.J (λs=>∃(f:Bool)(n:W8),s=(f,p.2.1,(p.2.1.length:Int),(i:Int),n,p)/\n.length=g.2.1.length/\ROk g st n/\(f=true->yx n<yx l)/\(f=false->n=l/\(l[q]?=some true->∀j,j<i+1->∀x,p.2.1[j]?=some x->x.1=true->l[x.2.1.toNat]?=some true))) (λnv a3=>?_) (λs⟨f,n,H,A,o,I,C⟩=>?_)
    .refine wac _ (atN M) ?_;obtain⟨x,ex⟩:∃x,p.2.1[i]=x:=⟨_,rfl⟩
     rw[ex]at R a0⊢;obtain⟨i1,i2⟩:=b8 x R;have keep:(n[q]?=some true->x.1=true->n[x.2.1.toNat]?=some true)->(f=false->n=l/\(l[q]?=some true->∀j,j<i+1->∀x,p.2.1[j]?=some x->x.1=true->l[x.2.1.toNat]?=some true)):=λhe c2=>by{obtain⟨T,Y⟩:=C c2;refine⟨T,λw j hj y S a8=>?_⟩;by_cases b9:j<i;{exact Y w j b9 y S a8};.have:j=i:=U;subst this;rw[a0]at S;cases S;rw[<- T]at w⊢;exact he w a8};refine Tt.J (λs=>∃b:Bool,s=(f,p.2.1,(p.2.1.length:Int),(i:Int),b,n,p,x)/\(b=true->x.1=true/\n[x.2.1.toNat]?=some false/\n[q]?=some true)/\(b=false->n[q]?=some true->x.1=true->n[x.2.1.toNat]?=some true)) (λnu O=>?_) (λs⟨b,H,b5,b6⟩=>?_)
     .rw[hq];refine wac _ (vn P) (wac _ (atN P) ?_);refine wab (λc=>?_) (λc=>O _ ⟨false,rfl,λh=>X,λ_ h=>?_⟩)
      .refine wab (λcx=>?_) (λcx=>O _ ⟨false,rfl,λh=>X,λ_ _ h=>?_⟩)
       .rw[if_pos cx]at i2;obtain⟨z,hz⟩:∃z:Nat,x.2.1=z:=⟨x.2.1.toNat,U⟩
        have B:z<n.length:=U;rw[hz];refine wac _ (vn B) (wac _ (atN B) (O _ ⟨_,rfl,λh=>⟨cx,?_,by rw[wch P,c]⟩,λh _ _=>?_⟩));{rw[hz,wcz,wch B];simp at h;rw[h]};grind
       grind
      grind
     .subst H;dsimp only;refine wab (λcb=>?_) (λcb=>a3 _ ⟨f,n,rfl,A,o,I,keep (b6 cb)⟩);obtain⟨b1,b2,b3⟩:=b5 cb;obtain⟨z,hz⟩:∃z:Nat,x.2.1=z:=⟨x.2.1.toNat,U⟩
      rw[hz,wcz]at b2;have B:=(wcl.1 b2).1;rw[hz];refine wac _ (vn B) (wac _ (yw true B) (a3 _ ⟨true,_,rfl,by simpa using A,o.set t (by rw[hq];exact b3) R b1 (by rw[hz];rfl),λ_=>?_,λh=>by cases h⟩));have:=zg2 b2;cases a2:f with|true=>{have:=I a2;omega}|false=>have:=(C a2).1;subst this;omega
    .subst H;dsimp only;refine Tt.b1 ?_;rw[wI U U];exact c3 (p.2.1.length-(i+1)) _ U ⟨i+1,f,n,U,rfl,V,A,o,I,C⟩
   .have c:=wck c;refine wab (λcn=>a5.fst _ ⟨true,n,rfl,A,o,λ_=>?_,λh=>by cases h⟩) (λcn=>?_);{have:=I cn;cases F:d with|true=>{have:=ht F;omega}|false=>have:=(hf F).1;subst this;omega};.obtain⟨T,Y⟩:=C cn;subst T;refine a5.fst _ ⟨d,n,rfl,A,o,ht,λc1=>?_⟩;obtain⟨e3,e4⟩:=hf c1;refine⟨e3,λj hj y S=>?_⟩;by_cases c0:j<k;{exact e4 j c0 y S};.have:j=k:=U;subst this;rw[Z]at S;cases S;intro w x hx c6;obtain⟨u,hu⟩:=wdc hx;rw[hq,wcz]at w;rw[<- e3]at w⊢;exact Y w u (by have:=(wcl.1 hu).1;omega) x hu c6
  .subst H;dsimp only;refine Tt.b1 ?_;rw[wI U U];exact c4 (g.2.2.1.length-(k+1)) _ U ⟨k+1,d,l,U,rfl,V,D,v,ht,hf⟩
 .have c:=wck c;cases F:d with
  |true=>have:=ht F;exact Tt.fst (a4 (2*yx l+1) _ U ⟨true,l,rfl,rfl,D,v,λh=>by cases h⟩)
  |false=>
   obtain⟨T,Y⟩:=hf F;subst T;exact Tt.fst (a4 (2*yx l) _ U ⟨false,l,rfl,rfl,D,v,λ_ p hp=>by
    obtain⟨i,hi⟩:=wdc hp;exact Y i (by have:=(wcl.1 hi).1;omega) p hi⟩)
def zbz(g:jb)(f:zeu g):Tn (λi=>zf i g) (λb=>b=true↔gFd g=zd):=by unfold zf;refine Waj (zlu g f) waa λd e=>Tt.pure ?_;subst e;obtain⟨a,b,c,u⟩:=gFd g;constructor;{intro h;simp[zwu]at h;grind};.intro h;cases h;rfl
def zyk{r:W8}{z:Nat}(h:r[z]?=some true):r.set z true=r:=by apply wdp;grind
def z65:∀r,yx r<=r.length
 |[]=>by trivial
 |b::r=>by have:=z65 r;unfold yx;grind
structure Psd(r r1:List Bool)(C D:Prop):Prop where
 l:r1.length=r.length
 le:yx r1<=yx r
 eq:yx r1=yx r->r1=r/\D
 cl:C->r1=r
def Psd.set{r a:W8}{C D:Prop}(h:Psd r a C D){z:Nat}(hz:z<a.length)(f:C->a[z]?=some true){b:Prop}(m:D->r[z]?=some true->b):Psd r (a.set z true) C b:=by by_cases d:a[z]?=some true;{rw[zyk d];refine⟨h.l,h.le,λe=>?_,h.cl⟩;obtain⟨j,k⟩:=h.eq e;grind};.have g:a[z]?=some false:=by{simp_all};have:=zg2 g;have i:=h.le;exact⟨by rw[wdz];exact h.l,U,λe=>U,λc=>absurd (f c) d⟩
def Psd.mono{r a:W8}{C D b:Prop}(h:Psd r a C D)(c:D->a=r->b):Psd r a C b:=⟨h.l,h.le,λe=>⟨(h.eq e).1,c (h.eq e).2 (h.eq e).1⟩,h.cl⟩
def z6q{r:W8}{z:Nat}(h:z<r.length):r[z]?=some r[z]:=wch h
def z3f(g:jb)(hg:zeu g)(hz:gFd g=zd)(t:GOk g):Tn (λnn=>zk nn g) (λr=>r.length=g.2.1.length/\r[g.2.2.2.1.toNat]?=some true/\(∀p∈g.2.2.1,reC r p)/\∀i,r[i]?=some true->ReG g i):=by
 unfold zk;refine Waj (zbz g hg) waa λb hb=>?_;have b6:=hb.2 hz;subst b6;refine wae rfl ?_;have hp:=hg.p;have hr:=hg.r;have d3:=t.r;refine Tt.b1 (wac _ (mkN hg.r U) ?_);obtain⟨st,a6⟩:∃st:Nat,g.2.2.2.1=st:=⟨g.2.2.2.1.toNat,by have:=t.start;omega⟩
 have e4:=t.start.2;rw[a6];have F:st<(replicate g.2.1.length false).length:=X;refine wac _ (vn F) (wac _ (yw true F) ?_);rw[wcz];have hi:ROk g st ((replicate g.2.1.length false).set st true):=by{refine⟨by rw[wdf];simp at F;simp[F],λi h=>?_⟩;rw[wdf]at h;split at h;{rename_i e;subst e;have:=ReG.start (g:=g);rwa [a6,wcz]at this};.rw[wd7]at h;split at h<;>cases h};have Z:((replicate g.2.1.length false).set st true).length=g.2.1.length:=V;generalize (replicate g.2.1.length false).set st true=r0 at hi Z⊢;refine Tt.loop (λm s=>∃(k:Nat)(r:W8),k<=g.2.1.length+1/\m=g.2.1.length+1-k/\s=((k:Int),g,r)/\r.length=g.2.1.length/\ROk g st r/\((∀p∈g.2.2.1,reC r p)\/yx r+k<=g.2.1.length)) (g.2.1.length+1) waa ⟨0,r0,U,U,rfl,Z,hi,.inr (by have:=z65 r0;omega)⟩ λm s⟨k,r,hk,hm,D,hl,N,b7⟩ nx c1=>?_;subst D;dsimp only;refine wab (λc=>?_) (λc=>Tt.pure ⟨hl,N.a,?_,N.b⟩)
 .have c:=wcj c;refine Tt.loop (λm s=>∃(i:Nat)(Q:W8),i<=g.2.2.1.length/\m=g.2.2.1.length-i/\s=((k:Int),(i:Int),g,Q)/\ROk g st Q/\Psd r Q (∀p∈g.2.2.1,reC r p) (∀(j:Nat)(p:jk),j<i->g.2.2.1[j]?=some p->reC r p)) g.2.2.1.length waa.fst ⟨0,r,U,U,rfl,N,⟨rfl,wcs _,λ_=>⟨rfl,λj p h=>U⟩,λ_=>rfl⟩⟩ λm s⟨i,Q,d7,d9,D,L,v⟩ ny c4=>?_;subst D;dsimp only;refine wab (λS=>?_) (λS=>?_)
  .have S:=wcj S;have M:i<g.2.2.1.length:=U;have d0:=z6q (r:=[]) (z:=0);have T:g.2.2.1[i]?=some g.2.2.1[i]:=wch M;have B:=atN M;have d:g.2.2.1[i]∈g.2.2.1:=wcm M;generalize g.2.2.1[i]=p at T B d;obtain⟨l0,l1⟩:=t.left p d;have b8:=t.items p d;have e3:=t.len p d;obtain⟨q,hq⟩:∃q:Nat,p.1=q:=⟨p.1.toNat,U⟩
   refine Tt.loop (λm s=>∃(j:Nat)(A:W8),j<=p.2.1.length/\m=p.2.1.length-j/\s=((k:Int),(i:Int),(j:Int),g,A)/\ROk g st A/\Psd r A (∀p∈g.2.2.1,reC r p) ((∀(j:Nat)(p:jk),j<i->g.2.2.1[j]?=some p->reC r p)/\(r[q]?=some true->∀(n:Nat)(x:jj),n<j->p.2.1[n]?=some x->x.1=true->r[x.2.1.toNat]?=some true))) p.2.1.length waa.fst.fst ⟨0,Q,U,U,rfl,L,v.mono λh _=>⟨h,λ_ n x hj=>U⟩⟩ λm s⟨j,A,hj,e0,D,w,f⟩ nz c5=>?_;subst D;dsimp only;have C:q<A.length:=by{rw[f.l];omega};refine Tt.J (λs=>∃b,s=((k:Int),(i:Int),(j:Int),b,g,A)/\(b=true↔A[q]?=some true/\j<p.2.1.length)) (λnw a3=>?_) (λs⟨b,D,hb⟩=>?_);{refine wac _ B ?_;rw[hq];refine wac _ (vn C) (wac _ (atN C) (wab (λI=>wac _ B (a3 _ ⟨_,rfl,?_⟩)) λI=>a3 _ ⟨_,rfl,?_⟩));{rw[z6q C,I];simp};.rw[z6q C,I];simp}
   .subst D;dsimp only;refine wab (λI=>?_) (λI=>?_)
    .obtain⟨O,o⟩:=hb.1 I;have Y:p.2.1[j]?=some p.2.1[j]:=wch o;have G:p.2.1[j]∈p.2.1:=wcm o;refine Tt.J (λs=>∃r3,s=((k:Int),(i:Int),(j:Int),g,r3)/\ROk g st r3/\Psd r r3 (∀p∈g.2.2.1,reC r p) ((∀(j:Nat)(p:jk),j<i->g.2.2.1[j]?=some p->reC r p)/\(r[q]?=some true->∀(n:Nat)(x:jj),n<j+1->p.2.1[n]?=some x->x.1=true->r[x.2.1.toNat]?=some true))) (λnu a2=>?_) (λs⟨r3,D,a5,a4⟩=>?_)
     .refine wac _ B (wac _ (atN o) ?_);generalize p.2.1[j]=x at Y G⊢;obtain⟨i1,i2⟩:=b8 x G;refine wab (λcx=>?_) (λcx=>a2 _ ⟨A,rfl,w,f.mono λh _=>⟨h.1,λR n y a0 hy a7=>?_⟩⟩)
      .rw[if_pos cx]at i2;obtain⟨z,H⟩:∃z:Nat,x.2.1=z:=⟨x.2.1.toNat,U⟩
       have P:z<A.length:=by{rw[f.l];omega};rw[H];refine wac _ (vn P) (wac _ (yw true P) (a2 _ ⟨_,rfl,w.set d (by rw[hq];exact O) G cx (by rw[H];rfl),f.set P (λhc=>?_) (λh c6=>⟨h.1,λR n y a0 hy a7=>?_⟩)⟩));{have e:=f.cl hc;rw[e]at O⊢;have:=hc p d (by rw[hq];exact O) x G cx;rwa [H]at this};.by_cases c0:n<j;{exact h.2 R n y c0 hy a7};.have:n=j:=U;subst this;rw[Y]at hy;cases hy;rw[H];exact c6
      grind
     .subst D;refine Tt.b1 ?_;dsimp only;rw[wI U U];exact c5 (p.2.1.length-(j+1)) _ U ⟨j+1,r3,U,rfl,rfl,a5,a4⟩
    .refine Tt.b1 ?_;rw[wI U U];refine(c4 (g.2.2.1.length-(i+1)) _ U ⟨i+1,A,U,rfl,rfl,w,f.mono λh e n p2 a0 u=>?_⟩).fst;by_cases b9:n<i;{exact h.1 n p2 b9 u};.have:n=i:=U;subst this;rw[T]at u;cases u;intro R x hx c7;rw[hq,wcz]at R;have o:¬j<p.2.1.length:=λo=>by{rw[hb.2 ⟨by rw[e];exact R,o⟩]at I;cases I};obtain⟨j3,a1⟩:=wdc hx;exact h.2 R j3 x (by have:=(wcl.1 a1).1;omega) a1 c7
  .have S:=wck S;refine Tt.b1 ?_;rw[wI U U];refine(c1 (g.2.1.length+1-(k+1)) _ U ⟨k+1,Q,U,rfl,rfl,by rw[v.l];exact hl,L,?_⟩).fst;by_cases he:yx Q=yx r;{obtain⟨e1,e2⟩:=v.eq he;left;intro p u;rw[e1];obtain⟨j,hj⟩:=wdc u;exact e2 j p (by have:=(wcl.1 hj).1;omega) hj};.have d8:=v.le;rcases b7 with h|h;{exact absurd (by rw[v.cl h]) he};.right;omega
 grind
inductive MkG(tk:Bool)(g:jb):Nat->Prop
 |mk {p:jk}:p∈g.2.2.1->(∀x∈p.2.1,x.1=true->MkG tk g x.2.1.toNat)->(∀x∈p.2.1,x.1=false->tk=true)->MkG tk g p.1.toNat
def MSn(a:Bool)(g:jb)(r:W8):Prop:=∀i:Nat,r[i]?=some true->MkG a g i
def IPt(a:Bool)(r:W8)(x:jj):Prop:=(x.1=true->r[x.2.1.toNat]?=some true)/\(x.1=false->a=true)
def mkT(a:Bool)(r:W8)(p:jk):Prop:=(∀x∈p.2.1,IPt a r x)->r[p.1.toNat]?=some true
def MSn.nil(a:Bool){g:jb}(n:Nat):MSn a g (replicate n false):=λi h=>by grind
def MSn.set{f:Bool}{g:jb}{r:W8}(h:MSn f g r){p:jk}(j:p∈g.2.2.1)(a:∀x∈p.2.1,IPt f r x){z:Nat}(hz:z=p.1.toNat):MSn f g (r.set z true):=λi b=>by rw[wdf]at b;split at b;{rename_i e;subst e;subst hz;exact .mk j (λx c d=>h _ ((a x c).1 d)) λx c=>(a x c).2};.exact h i b
def item1T(g:jb)(x:jj)(r:W8)(c:r.length=g.2.1.length)(d:zdn g x):Tn (λe=>Zi e x r) (λb=>b=true↔IPt true r x):=by refine(jf9 g x r c d).mono λb a=>a.trans ?_;unfold IPt;simp
def item1F(g:jb)(x:jj)(r:W8)(c:r.length=g.2.1.length)(d:zdn g x):Tn (λe=>Zl e x r) (λb=>b=true↔IPt false r x):=by refine(jkt g x r c d).mono λb a=>a.trans ?_;unfold IPt;grind
def jpl(g:jb)(hg:zad g)(hR:GR g)(A:GOk g):Tn (λnn=>Yd nn g) (λr=>r.length=g.2.1.length/\(∀p∈g.2.2.1,mkT true r p)/\MSn true g r):=by
 unfold Yd;refine Tt.J (λr=>r.length=g.2.1.length/\(∀p∈g.2.2.1,mkT true r p)/\MSn true g r) (λb6 h2=>?_) (λs u=>Tt.pure u);refine Waj hR waa λb M=>?_;subst M;refine wae rfl ?_;have hp:=hg.p;refine Tt.b1 (wac _ (mkN hg.r U) ?_);refine Tt.loop (λm s=>∃(a:Bool)(r:W8),m=2*yx r+(if a=true then 1 else 0)/\s=(g.2.2.1,a,r)/\r.length=g.2.1.length/\MSn true g r/\(a=false->∀p∈g.2.2.1,mkT true r p)) (2*yx (replicate g.2.1.length false)+1) waa ⟨true,_,rfl,rfl,V,MSn.nil _ _,λh=>X⟩ λm s⟨a,r,hm,u,hl,H,Q⟩ nx G=>?_;subst u;dsimp only;refine wab (λc=>?_) (λc=>h2.fst _ ⟨hl,Q c,H⟩);subst c;rw[if_pos rfl]at hm;refine Tt.loop (λm s=>∃(k:Nat)(a:Bool)(d:W8),k<=g.2.2.1.length/\m=g.2.2.1.length-k/\s=(g.2.2.1,a,g.2.2.1,(g.2.2.1.length:Int),(k:Int),d)/\d.length=g.2.1.length/\MSn true g d/\(a=true->yx d<yx r)/\(a=false->d=r/\∀i,i<k->∀p,g.2.2.1[i]?=some p->mkT true r p)) g.2.2.1.length waa.fst ⟨0,false,r,U,Wab,rfl,hl,H,λh=>(by cases h),λ_=>⟨rfl,λi F=>U⟩⟩ λm2 s⟨k,a,d,hk,b2,u,f,e,B,D⟩ ny a1=>?_;subst u;dsimp only;refine wab (λc=>?_) (λc=>?_)
 .have c:=wcj c;have y:k<g.2.2.1.length:=U;have l:g.2.2.1[k]∈g.2.2.1:=wcm y;refine wac _ (atN y) ?_;have C:g.2.2.1[k]?=some g.2.2.1[k]:=wch y;obtain⟨p,ep⟩:∃p,g.2.2.1[k]=p:=⟨_,rfl⟩
  rw[ep]at l C⊢;obtain⟨l0,l1⟩:=A.left p l;have S:=A.items p l;have b4:=A.len p l;obtain⟨q,N⟩:∃q:Nat,p.1=q:=⟨p.1.toNat,U⟩
  have o:q<d.length:=U;refine Tt.J (λs=>∃(a:Bool)(d:W8),s=(g.2.2.1,a,g.2.2.1,(g.2.2.1.length:Int),(k:Int),d)/\d.length=g.2.1.length/\MSn true g d/\(a=true->yx d<yx r)/\(a=false->d=r/\∀i,i<k+1->∀p,g.2.2.1[i]?=some p->mkT true r p)) (λnz z=>?_) (λs⟨a,d,u,f,e,B,D⟩=>?_);{have keep:mkT true d p->(a=false->d=r/\∀i,i<k+1->∀p,g.2.2.1[i]?=some p->mkT true r p):=λhe Z=>by{obtain⟨L,O⟩:=D Z;refine⟨L,λi F x v=>?_⟩;by_cases R:i<k;{exact O i R x v};.have:i=k:=U;subst this;rw[C]at v;cases v;rw[<- L];exact he};rw[N];refine wac _ (vn o) (wac _ (atN o) ?_);refine wab (λc=>z _ ⟨a,d,rfl,f,e,B,keep λ_=>?_⟩) (λc=>?_);{rw[N,wcz,wch o,c]};.have a2:d[q]?=some false:=by{rw[wch o,c]};refine Tt.loop (λm s=>∃i:Nat,i<=p.2.1.length/\m=p.2.1.length-i/\s=(p.2.1,(p.2.1.length:Int),(i:Int),d,p)/\∀(j:Nat)(x:jj),j<i->p.2.1[j]?=some x->IPt true d x) p.2.1.length waa.fst.fst ⟨0,U,U,rfl,λj x h=>U⟩ λm3 s⟨i,F,b3,u,n⟩ nw a0=>?_;subst u;dsimp only;refine wab (λc=>?_) (λc=>?_);{have c:=wcj c;have w:i<p.2.1.length:=U;have I:p.2.1[i]∈p.2.1:=wcm w;refine wac _ (atN w) (Waj (item1T g _ d f (S _ I)) waa.fst.fst.fst λb M=>?_);refine wab (λcb=>z.fst _ ⟨a,d,rfl,f,e,B,keep λn=>?_⟩) (λP=>Tt.b1 ?_);{have:=M.2 (n _ I);rw[this]at cb;cases cb};.rw[wI U U];refine a0 (p.2.1.length-(i+1)) _ U ⟨i+1,U,rfl,rfl,λj x T v=>?_⟩;by_cases Y:j<i;{exact n j x Y v};.have:j=i:=U;subst this;rw[wch w]at v;cases v;exact M.1 (by simpa using P)};.rw[N];refine wac _ (vn o) (wac _ (yw true o) (z.fst _ ⟨true,_,rfl,by simpa using f,e.set l (λx v=>?_) (by rw[N];rfl),λ_=>?_,λh=>by cases h⟩));{have c:=wck c;obtain⟨j,T⟩:=wdc v;exact n j x (by have:=(wcl.1 T).1;omega) T};have:=zg2 a2;cases t:a with|true=>{have:=B t;omega}|false=>have:=(D t).1;subst this;omega};.subst u;dsimp only;refine Tt.b1 ?_;rw[wI U U];exact a1 (g.2.2.1.length-(k+1)) _ U ⟨k+1,a,d,U,rfl,V,f,e,B,D⟩
 .have c:=wck c;cases t:a with
  |true=>have:=B t;exact Tt.fst (G (2*yx d+1) _ U ⟨true,d,rfl,rfl,f,e,λh=>by cases h⟩)
  |false=>
   obtain⟨L,O⟩:=D t;subst L;exact Tt.fst (G (2*yx d) _ U ⟨false,d,rfl,rfl,f,e,λ_ p hp=>by
    obtain⟨i,F⟩:=wdc hp;exact O i (by have:=(wcl.1 F).1;omega) p F⟩)
def jr1(g:jb)(hg:zad g)(hR:GR g)(v:GOk g):Tn (λnn=>zj nn g) (λr=>r.length=g.2.1.length/\(∀p∈g.2.2.1,mkT false r p)/\MSn false g r):=by
 unfold zj;refine Tt.J (λr=>r.length=g.2.1.length/\(∀p∈g.2.2.1,mkT false r p)/\MSn false g r) (λb4 h2=>?_) (λs o=>Tt.pure o);refine Waj hR waa λb Z=>?_;subst Z;refine wae rfl ?_;have hp:=hg.p;refine Tt.b1 (wac _ (mkN hg.r U) ?_);refine Tt.loop (λm s=>∃a r,m=2*yx r+(if a=true then 1 else 0)/\s=(g.2.2.1,a,r)/\r.length=g.2.1.length/\MSn false g r/\(a=false->∀p∈g.2.2.1,mkT false r p)) (2*yx (replicate g.2.1.length false)+1) waa ⟨true,_,rfl,rfl,V,MSn.nil _ _,λh=>X⟩ λm s⟨a,r,hm,o,hl,F,L⟩ nx D=>?_;subst o;dsimp only;refine wab (λc=>?_) (λc=>h2.fst _ ⟨hl,L c,F⟩);subst c;rw[if_pos rfl]at hm;refine Tt.loop (λm s=>∃k a d,k<=g.2.2.1.length/\m=g.2.2.1.length-k/\s=(g.2.2.1,a,g.2.2.1,(g.2.2.1.length:Int),(k:Int),d)/\d.length=g.2.1.length/\MSn false g d/\(a=true->yx d<yx r)/\(a=false->d=r/\∀i,i<k->∀p,g.2.2.1[i]?=some p->mkT false r p)) g.2.2.1.length waa.fst ⟨0,false,r,U,U,rfl,hl,F,λh=>(by cases h),λ_=>⟨rfl,λi A=>U⟩⟩ λm2 s⟨k,a,d,hk,a9,o,l,e,G,H⟩ ny Q=>?_;subst o;dsimp only;refine wab (λc=>?_) (λc=>?_)
 .have c:=wcj c;have t:k<g.2.2.1.length:=U;have f:=wcm t;refine Tt.at t ?_;have y:=wch t;obtain⟨p,ep⟩:∃p,g.2.2.1[k]=p:=⟨_,rfl⟩
  rw[ep]at f y⊢;obtain⟨l0,l1⟩:=v.left p f;have N:=v.items p f;have b2:=v.len p f;obtain⟨q,R⟩:∃q:Nat,p.1=q:=⟨p.1.toNat,U⟩
  have n:q<d.length:=U;refine Tt.J (λs=>∃a d,s=(g.2.2.1,a,g.2.2.1,(g.2.2.1.length:Int),(k:Int),d)/\d.length=g.2.1.length/\MSn false g d/\(a=true->yx d<yx r)/\(a=false->d=r/\∀i,i<k+1->∀p,g.2.2.1[i]?=some p->mkT false r p)) (λnz u=>?_) (λs⟨a,d,o,l,e,G,H⟩=>?_);{have keep:mkT false d p->(a=false->d=r/\∀i,i<k+1->∀p,g.2.2.1[i]?=some p->mkT false r p):=λhe O=>by{obtain⟨Y,I⟩:=H O;refine⟨Y,λi A x w=>?_⟩;by_cases M:i<k;{exact I i M x w};.have:i=k:=U;subst this;rw[y]at w;cases w;rwa [<- Y]};rw[R];refine waj n (Tt.at n ?_);refine wab (λc=>u _ ⟨a,d,rfl,l,e,G,keep λ_=>?_⟩) (λc=>?_);{rw[R,wcz,wch n,c]};.have S:d[q]?=some false:=by{rw[wch n,c]};refine Tt.loop (λm s=>∃i,i<=p.2.1.length/\m=p.2.1.length-i/\s=(p.2.1,(p.2.1.length:Int),(i:Int),d,p)/\∀j x,j<i->p.2.1[j]?=some x->IPt false d x) p.2.1.length waa.fst.fst ⟨0,U,Wab,rfl,λj x h=>U⟩ λm3 s⟨i,A,b0,o,z⟩ nw P=>?_;subst o;dsimp only;refine wad (λc=>?_) (λc=>?_);{have B:i<p.2.1.length:=U;have T:=wcm B;refine Tt.at B (Waj (item1F g _ d l (N _ T)) waa.fst.fst.fst λb Z=>?_);refine wab (λcb=>u.fst _ ⟨a,d,rfl,l,e,G,keep λz=>?_⟩) (λa6=>Tt.b1 ?_);{grind};.rw[wI U U];refine P (p.2.1.length-(i+1)) _ U ⟨i+1,U,rfl,rfl,λj x hj w=>?_⟩;grind};.rw[R];refine waj n (wac _ (yw true n) (u.fst _ ⟨true,_,rfl,X,e.set f (λx w=>?_) U,λ_=>?_,λh=>X⟩));{obtain⟨j,hj⟩:=wdc w;grind};have:=zg2 S;grind};.subst o;dsimp only;refine wai ?_;exact Q (g.2.2.1.length-(k+1)) _ U ⟨k+1,a,d,U,rfl,V,l,e,G,H⟩
 .have c:=wck c;cases C:a with
  |true=>have:=G C;exact Tt.fst (D (2*yx d+1) _ U ⟨true,d,rfl,rfl,l,e,λh=>by cases h⟩)
  |false=>
   obtain⟨rfl,I⟩:=H C;exact Tt.fst (D (2*yx d) _ U ⟨false,d,rfl,rfl,l,e,λ_ p hp=>by
    obtain⟨i,A⟩:=wdc hp;exact I i (by have:=(wcl.1 A).1;omega) p A⟩)
def jhg(g:jb)(l:Wam jj)(r:W8)(i:Bool)(G:l.length<=1000000)(I:r.length=g.2.1.length)(z:∀x∈l,zdn g x):Tn (λC=>zeo C l r i) (λb=>b=true↔∀x∈l,IPt i r x):=by unfold zeo;refine Tt.loop (λm s=>∃k,k<=l.length/\m=l.length-k/\s=(l,r,i,(k:Int))/\∀j x,j<k->l[j]?=some x->IPt i r x) l.length waa ⟨0,U,U,rfl,λj x h=>U⟩ λm s⟨k,F,H,q,u⟩ M p=>?_;subst q;dsimp only;refine wad (λc=>?_) (λc=>Tt.pure ?_);{have e:k<l.length:=U;have a:=atN e;have n:=wch e;have d:=wcm e;generalize l[k]=x at a n d;obtain⟨A,B⟩:=z x d;refine Tt.J (λs=>∃b,s=(l,r,i,(k:Int),b)/\(b=true↔¬IPt i r x)) (λN f=>?_) (λs⟨b,q,D⟩=>?_);{refine wac _ a (Tt.b1 ?_);cases o:x.1 with|false=>{refine wah rfl ?_;cases i with|false=>{exact wah rfl (f _ ⟨_,rfl,by unfold IPt;grind⟩)}|true=>refine wae rfl (wac _ a ?_);rw[o];exact wae rfl (f _ ⟨_,rfl,by unfold IPt;grind⟩)}|true=>rw[if_pos o]at B;refine wae rfl (wac _ a ?_);rw[o];refine wah rfl (wac _ a ?_);have hz:x.2.1.toNat<r.length:=U;refine wac _ (Qf A (wch hz)) (f _ ⟨_,rfl,?_⟩);unfold IPt;grind};.subst q;dsimp only;refine wab (λv=>Tt.pure ?_) λv=>Tt.b1 ?_;{grind};.rw[wI U U];refine p (l.length-(k+1)) _ U ⟨k+1,U,rfl,rfl,λj y w L=>?_⟩;grind};.simp only[true_iff];intro x t;obtain⟨j,w⟩:=wdc t;grind
def zuy(g:jb)(G:zeu g)(hz:gFd g=zd)(t:GOk g)(d:Bool):Tn (λnn=>zem nn g d) (λr=>r.length=g.2.1.length/\(∀p∈g.2.2.1,mkT d r p)/\MSn d g r):=by
 unfold zem zh4;refine Waj (zbz g G) waa λb H=>?_;have I:=H.2 hz;subst I;refine wae rfl ?_;have hp:=G.p;have hr:=G.r;have Y:=t.r;refine Tt.b1 (wac _ (mkN G.r U) ?_);refine Tt.loop (λm s=>∃k r,k<=g.2.1.length+1/\m=g.2.1.length+1-k/\s=(d,(k:Int),g,r)/\r.length=g.2.1.length/\MSn d g r/\((∀p∈g.2.2.1,mkT d r p)\/yx r+k<=g.2.1.length)) (g.2.1.length+1) waa ⟨0,_,U,Wab,rfl,V,MSn.nil _ _,.inr (by have:=z65 (replicate g.2.1.length false);grind)⟩ λm s⟨k,r,hk,hm,B,hl,C,L⟩ nx O=>?_;subst B;dsimp only;refine wad (λc=>?_) (λc=>Tt.pure ⟨hl,?_,C⟩)
 .refine Tt.loop (λm s=>∃i o,i<=g.2.2.1.length/\m=g.2.2.1.length-i/\s=(d,(k:Int),(i:Int),g,o)/\MSn d g o/\Psd r o (∀p∈g.2.2.1,mkT d r p) (∀j p,j<i->g.2.2.1[j]?=some p->mkT d r p)) g.2.2.1.length waa.fst ⟨0,r,U,U,rfl,C,⟨rfl,wcs _,λ_=>⟨rfl,λj p h=>U⟩,λ_=>rfl⟩⟩ λm s⟨i,o,a1,a6,B,n,f⟩ ny P=>?_;subst B;dsimp only;refine wad (λZ=>?_) (λZ=>?_)
  .have w:i<g.2.2.1.length:=U;have M:=wch w;have v:=atN w;have a:=wcm w;generalize g.2.2.1[i]=p at M v a;obtain⟨l0,l1⟩:=t.left p a;have N:=t.items p a;have a7:=t.len p a;obtain⟨q,hq⟩:∃q:Nat,p.1=q:=⟨p.1.toNat,U⟩
   have Q:o.length=g.2.1.length:=by{rw[f.l];omega};have x:q<o.length:=U;refine Tt.J (λs=>∃F,s=(d,(k:Int),(i:Int),g,F)/\MSn d g F/\Psd r F (∀p∈g.2.2.1,mkT d r p) (∀j p,j<i+1->g.2.2.1[j]?=some p->mkT d r p)) (λnz y=>?_) (λs⟨F,B,D,A⟩=>?_);{have ext:mkT d r p->(∀j p,j<i->g.2.2.1[j]?=some p->mkT d r p)->∀j p,j<i+1->g.2.2.1[j]?=some p->mkT d r p:=λhm h j p2 hj z=>by{grind};refine wac _ v (Waj (jhg g p.2.1 o d U Q N) waa.fst.fst λb H=>?_);refine wab (λR=>?_) λR=>y _ ⟨o,rfl,n,f.mono λh e=>ext (λu=>?_) h⟩;{have u:=H.1 R;refine wac _ v ?_;rw[hq];refine waj x (wac _ (yw true x) (y _ ⟨_,rfl,n.set a u U,f.set x (λS=>?_) λh a9=>ext (λ_=>X) h⟩));have e:=f.cl S;have:=S p a X;grind};grind};.subst B;refine Tt.b1 ?_;dsimp only;rw[wI U U];exact P (g.2.2.1.length-(i+1)) _ U ⟨i+1,F,U,rfl,rfl,D,A⟩
  .refine wai ?_;refine(O (g.2.1.length+1-(k+1)) _ U ⟨k+1,o,U,rfl,rfl,by rw[f.l];omega,n,?_⟩).fst;by_cases T:yx o=yx r;{obtain⟨e1,e2⟩:=f.eq T;left;intro p z;rw[e1];obtain⟨j,hj⟩:=wdc z;grind};.have a4:=f.le;rcases L with h|h;{exact absurd (by rw[f.cl h]) T};omega
 grind
def z4s{n:Nat}{a b:W8}(g:a.length=n)(j:b.length=n)(h:∀i:Nat,a[i]?=some true↔b[i]?=some true):a=b:=by apply wfa U;intro i e f;have:=h i;rw[wch e,wch f]at this;cases c:a[i]<;>cases d:b[i]<;>simp[c,d]at this⊢
def jok{g:jb}{r:W8}(h0:r[g.2.2.2.1.toNat]?=some true)(b:∀p∈g.2.2.1,reC r p){i:Nat}(h:ReG g i):r[i]?=some true:=by induction h with|start=>{omega}|step c _ d a e=>exact b _ c e _ d a
def jo3{b:Bool}{g:jb}{r:W8}(d:∀p∈g.2.2.1,mkT b r p){i:Nat}(h:MkG b g i):r[i]?=some true:=by induction h with|mk e _ c f=>exact d _ e λx a=>⟨f x a,c x a⟩
def jcc{g:jb}{a b:W8}(c:a.length=g.2.1.length/\a[g.2.2.2.1.toNat]?=some true/\(∀p∈g.2.2.1,reC a p)/\∀i,a[i]?=some true->ReG g i)(d:b.length=g.2.1.length/\b[g.2.2.2.1.toNat]?=some true/\(∀p∈g.2.2.1,reC b p)/\∀i,b[i]?=some true->ReG g i):a=b:=
 z4s c.1 d.1 λi=>⟨λh=>jok d.2.1 d.2.2.1 (c.2.2.2 i h),λh=>jok c.2.1 c.2.2.1 (d.2.2.2 i h)⟩
def jcb{c:Bool}{g:jb}{a b:W8}(d:a.length=g.2.1.length/\(∀p∈g.2.2.1,mkT c a p)/\MSn c g a)(e:b.length=g.2.1.length/\(∀p∈g.2.2.1,mkT c b p)/\MSn c g b):a=b:=
 z4s d.1 e.1 λi=>⟨λh=>jo3 e.2.1 (d.2.2 i h),λh=>jo3 d.2.1 (e.2.2 i h)⟩
inductive FiL(em:List Bool)(ps:List jk)(t:Int):List jj->Prop
 |tok {x:jj}{l:List jj}:x.1=false->t=x.2.1->FiL em ps t (x::l)
 |rule {x:jj}{l:List jj}{p:jk}:x.1=true->p∈ps->p.1.toNat=x.2.1.toNat->FiL em ps t p.2.1->FiL em ps t (x::l)
 |skip {x:jj}{l:List jj}:x.1=true->em.getD x.2.1.toNat false=true->FiL em ps t l->FiL em ps t (x::l)
def FiG(em:W8)(ps:List jk)(i:Nat)(t:Int):Prop:=∃p,p∈ps/\p.1.toNat=i/\FiL em ps t p.2.1
def FSn(g:jb)(em:W8)(al:W4):Prop:=∀(i:Nat)(t:Int),t∈al.getD i []->FiG em g.2.2.1 i t
structure FRn(g:jb)(em:List Bool)(al:List (List Int)):Prop where
 r:∀l∈al,RN g.1.length l
 s:FSn g em al
def FSn.nil{g:jb}{em:W8}(n:Nat):FSn g em (replicate n []):=λi t h=>by grind
def FSn.inF{g:jb}{em:W8}{al:W4}(h:FSn g em al){t:Int}:∀{its:Wam jj},inF em al t its->FiL em g.2.2.1 t its
 |[],a=>by cases a
 |x::l,a=>by
  unfold T.inF at a;by_cases b:x.1=true
  .rw[if_pos b]at a;rcases a with c|⟨c,d⟩
   {obtain⟨p,i,e,f⟩:=h _ _ c;exact .rule b i e f};.exact .skip b c (FSn.inF h d)
  .rw[if_neg b]at a;exact .tok X a
def FSn.set{g:jb}{em:W8}{al:W4}(h:FSn g em al){q:Nat}{u:W7}(b:q<al.length)(c:∀t∈u,FiG em g.2.2.1 q t):FSn g em (al.set q u):=λi t a=>by simp[we1,wdf]at a;split at a;{grind};.exact h i t X
def js8(g:jb)(hg:zad g)(hR:GR g)(y:GOk g)(em:W8)(hE:Tn (λnn=>zj nn g) (λr=>r=em))(T:em.length=g.2.1.length):
  Tn (λnn=>Qd nn g) (λr=>∃o,r=some (em,o,())/\o.length=g.2.1.length/\FRn g em o/\∀p∈g.2.2.1,fiC em o p):=by
 have hp:=hg.p;have ht:=y.t;unfold Qd;refine Waj hR waa λb hb=>?_;subst hb;refine wae rfl (Waj hE waa λr hr=>?_);subst hr;refine Tt.b1 (wac _ (mkN hg.r U) ?_);refine Tt.loop (λm s=>∃(a:Bool)(o:W4),m=2*Q8 g.1.length o+(if a=true then 1 else 0)/\s=(a,g,r,o)/\o.length=g.2.1.length/\FRn g r o/\(a=false->∀p∈g.2.2.1,fiC r o p)) (2*Q8 g.1.length (replicate g.2.1.length [])+1) waa ⟨true,_,rfl,rfl,V,⟨λl P=>by rw[List.eq_of_mem_replicate P];exact RN.nil _,FSn.nil _⟩,λh=>by cases h⟩ λm s⟨a,o,hm,M,P,I,S⟩ nx F=>?_;subst M;dsimp only;refine wab (λc=>?_) (λc=>Tt.pure ⟨o,rfl,P,I,S c⟩);subst c;rw[if_pos rfl]at hm;refine Tt.loop (λm s=>∃(k:Nat)(a:Bool)(j:W4),k<=g.2.2.1.length/\m=g.2.2.1.length-k/\s=(a,g.2.2.1,(g.2.2.1.length:Int),(k:Int),g,r,j)/\j.length=g.2.1.length/\FRn g r j/\(a=true->Q8 g.1.length j<Q8 g.1.length o)/\(a=false->j=o/\∀i,i<k->∀p,g.2.2.1[i]?=some p->fiC r o p)) g.2.2.1.length waa.fst ⟨0,false,o,U,Wab,rfl,P,I,λh=>X,λ_=>⟨rfl,λi O=>U⟩⟩ λm2 s⟨k,a,j,hk,c1,M,w,d,B,z⟩ ny a0=>?_;subst M;dsimp only;refine wad (λc=>?_) (λc=>?_)
 ·have C:k<g.2.2.1.length:=U;have v:=wcm C;refine Tt.at C ?_;have D:=wch C;obtain⟨p,ep⟩:∃p,g.2.2.1[k]=p:=⟨_,rfl⟩
  rw[ep]at v D⊢;obtain⟨l0,l1⟩:=y.left p v;have Y:=y.items p v;have c2:=y.len p v;obtain⟨q,hq⟩:∃q:Nat,p.1=q:=⟨p.1.toNat,U⟩
  have n:q<j.length:=U;refine Tt.J (λs=>∃(a:Bool)(j:W4),s=(a,g.2.2.1,(g.2.2.1.length:Int),(k:Int),g,r,j)/\j.length=g.2.1.length/\FRn g r j/\(a=true->Q8 g.1.length j<Q8 g.1.length o)/\(a=false->j=o/\∀i,i<k+1->∀p,g.2.2.1[i]?=some p->fiC r o p)) (λnz G=>?_) (λs⟨a,j,M,w,d,B,z⟩=>?_)
  ·rw[hq];have H:=d.r _ (wcm n);refine waj n (Tt.at n ?_);refine Waj (jqn g y r j T w d.r p.2.1 U Y) waa.fst.fst λf⟨f1,f2⟩=>?_;refine Waj (zgf U H f1) waa.fst.fst λu⟨u1,u2⟩=>?_;refine waj n (Tt.at n (waj n (wac _ (yw u n) ?_)));have L:FRn g r (j.set q u):=⟨λl h=>by
    rcases weg h with h|h
    ·exact d.r l h
    grind,d.s.set n λt ht=>by
    rcases(u2 t).1 ht with h|h
    ·exact d.s q t X
    ·exact⟨p,v,U,d.s.inF ((f2 t).1 h)⟩⟩
   have Z:(j.set q u).length=g.2.1.length:=X;obtain⟨s1,s2⟩:=zji H.r u1.r λx Q=>(u2 x).2 (.inl Q);refine wad (λc=>G _ ⟨true,_,rfl,Z,L,λ_=>?_,λh=>X⟩) (λc=>?_)
   ·have:=zme (wch n) U u1.len
    grind
   ·have e:=s2 U;have es:j.set q u=j:=by rw[<- e];simp
    rw[es];refine G _ ⟨a,j,rfl,w,d,B,λA=>?_⟩;obtain⟨R,e2⟩:=z A;refine⟨R,λi O x Q=>?_⟩;by_cases b9:i<k
    ·grind
    ·have:i=k:=U;subst this;rw[D]at Q;cases Q;intro t N;rw[hq,wcz];have h1:=(u2 t).2 (.inr ((f2 t).2 (R▸N)));rw[<- e]at h1;have:o.getD q []=j[q]:=by rw[<- R];simp[List.getD,n]
     rwa [this]
  ·subst M;dsimp only;refine wai ?_;exact a0 (g.2.2.1.length-(k+1)) _ U ⟨k+1,a,j,U,rfl,V,w,d,B,z⟩
 ·cases A:a with
  |true=>
   have:=B A;exact Tt.fst (F (2*Q8 g.1.length j+1) _ U ⟨true,j,rfl,rfl,w,d,λh=>by cases h⟩)
  |false=>
   obtain⟨rfl,e2⟩:=z A;exact Tt.fst (F (2*Q8 g.1.length j) _ U ⟨false,j,rfl,rfl,w,d,λ_ p hp=>by
    obtain⟨i,O⟩:=wdc hp;exact e2 i (by have:=(wcl.1 O).1;omega) p O⟩)
def z7h{a b:W7}(d:jx a)(e:jx b)(h:∀x,x∈a↔x∈b):a=b:=by obtain⟨i,f⟩:=zji d e λx c=>(h x).1 c;obtain⟨g,_⟩:=zji e d λx c=>(h x).2 c;exact f g
def jnf{n N:Nat}{a b:W4}(g:a.length=n)(j:b.length=n)(e:∀l∈a,RN N l)(f:∀l∈b,RN N l)(h:∀i t,t∈a.getD i []↔t∈b.getD i []):a=b:=by apply wfa U;intro i c d;refine z7h (e _ (wcm c)).r (f _ (wcm d)).r λx=>?_;have:=h i x;grind
def zzy{em:W8}{al:W4}{B C:W7}(h:∀y∈B,y∈C){t:Int}:∀{l:Wam jj},inT em al B t l->inT em al C t l
 |[],a=>h _ a
 |x::l,a=>by
  unfold inT at a⊢;by_cases c:x.1=true;.rw[if_pos c]at a⊢;exact a.imp id λb=>⟨b.1,zzy h b.2⟩
  grind
inductive FoL(ps:List jk)(st:Nat)(en:Int)(em re:List Bool)(al:List (List Int)):Nat->Int->Prop
 |fin:FoL ps st en em re al st en
 |step {p:jk}{j:Nat}{x:jj}{t:Int}(B:List Int):p∈ps->re[p.1.toNat]?=some true->p.2.1[j]?=some x->x.1=true->(∀y,y∈B->FoL ps st en em re al p.1.toNat y)->inT em al B t (p.2.1.drop (j+1))->FoL ps st en em re al x.2.1.toNat t
def FoG(g:jb)(em re:W8)(al:W4):Nat->Int->Prop:=FoL g.2.2.1 g.2.2.2.1.toNat (g.1.length:Int) em re al
structure FoR(g:jb)(em re:List Bool)(al:List (List Int))(T:Nat)(B:List (List Int)):Prop where
 r:∀l∈B,RN T l
 s:∀(i:Nat)(t:Int),t∈B.getD i []->FoG g em re al i t
def jsg{P:Nat->Int->Prop}{B:W4}(h:∀i t,t∈B.getD i []->P i t){z:Nat}{u:W7}(hz:z<B.length)(b:∀t∈u,P z t):∀i t,t∈(B.set z u).getD i []->P i t:=λi t a=>by grind
def jl0(g:jb)(hg:zad g)(hR:GR g)(Y:GOk g)(em re:W8)(al:W4)(hE:Tn (λnn=>zj nn g) (λr=>r=em))(j0:em.length=g.2.1.length)(hl:al.length=g.2.1.length)(g6:∀l∈al,RN g.1.length l)(hA:Tn (λnn=>ze6 nn g) (λr=>r=al))(f5:Tn (λnn=>Jg nn g) (λr=>r=re))(j6:re.length=g.2.1.length):
  Tn (λnn=>Yf nn g) (λB=>B.length=g.2.1.length/\FoR g em re al (g.1.length+1) B/\(g.1.length:Int)∈B.getD g.2.2.2.1.toNat []/\∀p∈g.2.2.1,re[p.1.toNat]?=some true->foC em al B p):=by
 unfold Yf;refine Waj hR waa λb hb=>?_;subst hb;refine wae rfl ?_;have hp:=hg.p;have j8:=Y.t;refine Waj hA waa λr hr=>?_;subst hr;refine Waj hE waa λe he=>?_;subst he;refine Waj f5 waa λw hw=>?_;subst hw;refine Tt.b1 (wac _ (mkN hg.r U) ?_);refine Waj (jvf g hR) waa λen f7=>?_;subst f7;obtain⟨st,b9⟩:∃st:Nat,g.2.2.2.1=st:=⟨g.2.2.2.1.toNat,by have:=Y.start;omega⟩
 have j7:=Y.start.2;rw[b9];have a5:st<(replicate g.2.1.length ([]:W7)).length:=X;refine wac _ (vn a5) (wac _ (yw _ a5) ?_);rw[wcz];obtain⟨T,hT⟩:∃T,g.1.length+1=T:=⟨_,rfl⟩
 rw[hT];refine Tt.loop (λm s=>∃(d:Bool)(B:W4),m=2*Q8 T B+(if d=true then 1 else 0)/\s=(d,g,r,e,w,B)/\B.length=g.2.1.length/\FoR g e w r T B/\(g.1.length:Int)∈B.getD st []/\(d=false->∀p∈g.2.2.1,w[p.1.toNat]?=some true->foC e r B p)) (2*Q8 T ((replicate g.2.1.length []).set st [(g.1.length:Int)])+1) waa ⟨true,_,rfl,rfl,V,⟨λl hl=>?_,?_⟩,?_,λh=>by cases h⟩ λm s⟨d,B,hm,Z,c5,c6,c4,f6⟩ nx d4=>?_
 ·rcases weg hl with h|h
  ·rw[List.eq_of_mem_replicate h];exact RN.nil _
  ·rw[h];exact RN.one U U
 ·refine jsg (P:=FoG g e w r) (λi t h=>?_) a5 λt h=>?_
  ·have:(replicate g.2.1.length ([]:W7)).getD i []=[]:=by
    simp only[we1,wd7];split<;>rfl
   rw[this]at h;cases h
  ·rw[wcr.1 h];have:=FoL.fin (ps:=g.2.2.1) (st:=g.2.2.2.1.toNat) (en:=(g.1.length:Int)) (em:=e) (re:=w) (al:=r);rw[b9,wcz]at this;unfold FoG;rw[b9,wcz];exact this
 ·simp only[List.getD,wdf];simp at a5;simp[a5]
 subst Z;dsimp only;refine wab (λc=>?_) (λc=>Tt.pure ⟨c5,c6,c4,f6 c⟩);subst c;rw[if_pos rfl]at hm;refine Tt.loop (λm s=>∃(k:Nat)(d:Bool)(f:W4),k<=g.2.2.1.length/\m=g.2.2.1.length-k/\s=(d,g.2.2.1,(g.2.2.1.length:Int),(k:Int),g,r,e,w,f)/\f.length=g.2.1.length/\FoR g e w r T f/\(g.1.length:Int)∈f.getD st []/\(d=true->Q8 T f<Q8 T B)/\(d=false->f=B/\∀i,i<k->∀p,g.2.2.1[i]?=some p->w[p.1.toNat]?=some true->foC e r B p)) g.2.2.1.length waa.fst ⟨0,false,B,U,U,rfl,c5,c6,c4,λh=>(by cases h),λ_=>⟨rfl,λi hi=>U⟩⟩ λm2 s⟨k,d,f,hk,j2,Z,S,L,R,ht,hf⟩ ny g5=>?_;subst Z;dsimp only;refine wab (λc=>?_) (λc=>?_)
 ·have c:=wcj c;have b7:k<g.2.2.1.length:=U;have I:g.2.2.1[k]∈g.2.2.1:=wcm b7;have c3:g.2.2.1[k]?=some g.2.2.1[k]:=wch b7;refine Tt.J (λs=>∃(d:Bool)(f:W4),s=(d,g.2.2.1,(g.2.2.1.length:Int),(k:Int),g,r,e,w,f)/\f.length=g.2.1.length/\FoR g e w r T f/\(g.1.length:Int)∈f.getD st []/\(d=true->Q8 T f<Q8 T B)/\(d=false->f=B/\∀i,i<k+1->∀p,g.2.2.1[i]?=some p->w[p.1.toNat]?=some true->foC e r B p)) (λnz d5=>?_) (λs⟨d,f,Z,S,L,R,ht,hf⟩=>?_)
  ·refine wac _ (atN b7) ?_;obtain⟨p,ep⟩:∃p,g.2.2.1[k]=p:=⟨_,rfl⟩
   rw[ep]at I c3⊢;obtain⟨l0,l1⟩:=Y.left p I;have f9:=Y.items p I;have j4:=Y.len p I;obtain⟨q,hq⟩:∃q:Nat,p.1=q:=⟨p.1.toNat,U⟩
   have d6:q<w.length:=U;have a4:q<f.length:=U;refine Tt.J (λs=>∃(a:Bool)(A:W4),s=(d,g.2.2.1,(g.2.2.1.length:Int),(k:Int),a,g,r,e,w,A)/\A.length=g.2.1.length/\FoR g e w r T A/\(g.1.length:Int)∈A.getD st []/\(a=true->Q8 T A<Q8 T f)/\(a=false->A=f/\(w[q]?=some true->foC e r f p))) (λnw d3=>?_) (λs⟨a,A,Z,H,F,G,Q,O⟩=>?_)
   ·rw[hq];refine wac _ (atN d6) ?_;refine wab (λcw=>?_) (λcw=>d3 _ ⟨false,f,rfl,S,L,R,λh=>(by cases h),λ_=>⟨rfl,λh=>?_⟩⟩)
    ·refine wac _ (vn a4) (wac _ (atN a4) (Tt.b1 ?_));rw[wI U U];refine Tt.loop (λm s=>∃(i:Nat)(D:W7)(a:Bool)(A:W4),i<=p.2.1.length/\m=i/\s=(D,(i:Int)-1,r,e,w,A,p,a)/\RN T D/\(∀t,t∈D↔inT e r f[q] t (p.2.1.drop i))/\A.length=g.2.1.length/\FoR g e w r T A/\(g.1.length:Int)∈A.getD st []/\(a=true->Q8 T A<Q8 T f)/\(a=false->A=f/\∀j,i<=j->∀x,p.2.1[j]?=some x->x.1=true->∀t,inT e r f[q] t (p.2.1.drop (j+1))->t∈f.getD x.2.1.toNat [])) p.2.1.length waa.fst.fst ⟨p.2.1.length,f[q],false,f,U,rfl,rfl,L.r _ (wcm a4),λt=>by rw[wef];rfl,S,L,R,λh=>(by cases h),λ_=>⟨rfl,λj hj x hx=>by rw[wee U]at hx;cases hx⟩⟩ λm3 s⟨i,D,a,A,hi,j3,Z,b4,a6,H,F,G,Q,O⟩ nv g4=>?_;subst Z;dsimp only;refine wab (λc=>?_) (λc=>?_)
     ·have c:=wcj c;obtain⟨i,rfl⟩:∃i',i=i'+1:=⟨i-1,U⟩
      have ei:((i+1:Nat):Int)-1=(i:Int):=U;rw[ei];have b2:i<p.2.1.length:=U;have e5:p.2.1[i]∈p.2.1:=wcm b2;have a9:p.2.1[i]?=some p.2.1[i]:=wch b2;have b0:p.2.1.drop i=p.2.1[i]::p.2.1.drop (i+1):=wcy b2;refine Tt.J (λs=>∃(D:W7)(a:Bool)(A:W4),s=(D,(i:Int),r,e,w,A,p,a)/\RN T D/\(∀t,t∈D↔inT e r f[q] t (p.2.1.drop i))/\A.length=g.2.1.length/\FoR g e w r T A/\(g.1.length:Int)∈A.getD st []/\(a=true->Q8 T A<Q8 T f)/\(a=false->A=f/\∀j,i<=j->∀x,p.2.1[j]?=some x->x.1=true->∀t,inT e r f[q] t (p.2.1.drop (j+1))->t∈f.getD x.2.1.toNat [])) (λnu b8=>?_) (λs⟨D,a,A,Z,b4,a6,H,F,G,Q,O⟩=>?_)
      ·refine wac _ (atN b2) ?_;obtain⟨x,ex⟩:∃x,p.2.1[i]=x:=⟨_,rfl⟩
       rw[ex]at e5 a9 b0⊢;obtain⟨i1,i2⟩:=f9 x e5;refine wab (λcx=>?_) (λcx=>?_)
       ·have cx:x.1=false:=by simpa using cx
        rw[cx]at i2;simp only[wdq,if_false]at i2;refine b8 _ ⟨_,a,A,rfl,RN.one i1 U,λt=>?_,H,F,G,Q,λhn=>?_⟩
        ·rw[b0];simp[inT,cx]
        ·obtain⟨N,e2⟩:=O hn;refine⟨N,λj hj y M a7=>?_⟩;by_cases b6:i+1<=j
         ·exact e2 j b6 y M a7
         ·have:j=i:=U;subst this;rw[a9]at M;cases M;rw[cx]at a7;cases a7
       ·have cx:x.1=true:=by simpa using cx
        rw[if_pos cx]at i2;obtain⟨z,hz⟩:∃z:Nat,x.2.1=z:=⟨x.2.1.toNat,U⟩
        have C:z<A.length:=U;have c0:z<e.length:=U;have a8:z<r.length:=U;rw[hz];refine wac _ (vn C) (wac _ (atN C) ?_);have c7:RN T A[z]:=F.r _ (wcm C);have d8:RN T r[z]:=(g6 _ (wcm a8)).up U;refine Waj (zpa (n:=T) U c7 b4) waa.fst.fst.fst λu⟨u1,u2⟩=>?_;obtain⟨s1,s2⟩:=zji c7.r u1.r λy M=>(u2 y).2 (.inl M);have d0:(A.set z u).length=g.2.1.length:=by rw[wdz];exact H
        have d7:FoR g e w r T (A.set z u):=⟨λl h=>by
         rcases weg h with h|h
         ·exact F.r l h
         ·rw[h];exact u1,jsg F.s C λt h=>by
         rcases(u2 t).1 h with h|h
         ·exact F.s z t (by simpa [List.getD,C]using h)
         ·have h1:FoG g e w r x.2.1.toNat t:=FoL.step f[q] I (by rw[hq,wcz,wch d6,cw]) a9 cx (λy M=>by
           have h2:FoG g e w r q y:=L.s q y (by simpa [List.getD,a4]using M);have h3:p.1.toNat=q:=U;rw[h3];exact h2) ((a6 t).1 h)
          rw[hz,wcz]at h1;exact h1⟩
        have c8:(g.1.length:Int)∈(A.set z u).getD st []:=z9w C (λy M=>(u2 y).2 (.inl M)) G;refine Tt.J (λs=>∃(a:Bool),s=((z:Int),u,r,e,w,A,a)/\(a=true->Q8 T (A.set z u)<Q8 T f)/\(a=false->A.set z u=f/\A=f/\A[z]=u/\∀j,i+1<=j->∀x,p.2.1[j]?=some x->x.1=true->∀t,inT e r f[q] t (p.2.1.drop (j+1))->t∈f.getD x.2.1.toNat [])) (λnt d2=>?_) (λs⟨a,Z,e0,f8⟩=>?_)
        ·refine wab (λcn=>d2 _ ⟨true,rfl,λ_=>?_,λh=>by cases h⟩) (λcn=>?_)
         ·have h1:=Q cn;by_cases g2:A[z].length<u.length
          ·have:=zme (T:=T) (al:=A) (k:=z) (o:=A[z]) (n:=u) (wch C) g2 u1.len;omega
          ·have N:=s2 U;have es:A.set z u=A:=by rw[<- N];exact List.set_getElem_self C
           rw[es];exact h1
         ·obtain⟨N,e2⟩:=O cn;refine wac _ (vn C) (wac _ (atN C) (d2 _ ⟨_,rfl,λh=>?_,λh=>?_⟩))
          ·have h:=wcj h;have:=zme (T:=T) (al:=A) (k:=z) (o:=A[z]) (n:=u) (wch C) U u1.len;rw[N]at this⊢;omega
          ·have h:=wck h;have e3:=s2 U;have es:A.set z u=A:=by rw[<- e3];exact List.set_getElem_self C
           exact⟨es.trans N,N,e3,e2⟩
        ·subst Z;dsimp only;have a2:(a=false->A.set z u=f/\∀j,i<=j->∀x,p.2.1[j]?=some x->x.1=true->∀t,inT e r f[q] t (p.2.1.drop (j+1))->t∈f.getD x.2.1.toNat []):=λhn=>by
          obtain⟨N,e2,e3,e4⟩:=f8 hn;refine⟨N,λj hj y M a7 t b3=>?_⟩;by_cases b6:i+1<=j
          ·exact e4 j b6 y M a7 t b3
          ·have:j=i:=U;subst this;rw[a9]at M;cases M;rw[hz,wcz];have h7:z<f.length:=by rw[<- e2];exact C
           have h1:t∈u:=(u2 t).2 (.inr ((a6 t).2 b3));have h2:f.getD z []=u:=by rw[<- e2,<- e3];simp[List.getD,C]
           rw[h2];exact h1
         refine wac _ (vn C) (wac _ (yw u C) (wac _ (atN c0) ?_));refine wab (λce=>?_) (λce=>?_)
         ·refine wac _ (atN a8) ?_;refine Waj (zpa (n:=T) U b4 d8) waa.fst.fst.fst λv⟨v1,v2⟩=>?_;refine b8 _ ⟨v,a,_,rfl,v1,λt=>?_,d0,d7,c8,e0,a2⟩;rw[v2,a6,b0];simp only[inT,cx,if_true,hz,wcz,List.getD,wch c0,wch a8,wdr,ce,true_and];exact or_comm
         ·refine wac _ (atN a8) ?_;refine b8 _ ⟨_,a,_,rfl,d8,λt=>?_,d0,d7,c8,e0,a2⟩;rw[b0];simp only[inT,cx,if_true,hz,wcz,List.getD,wch c0,wch a8,wdr,ce,wdq,false_and,or_false]
      ·subst Z;dsimp only;refine Tt.b1 ?_;rw[wI U U];exact g4 i _ U ⟨i,D,a,A,U,rfl,rfl,b4,a6,H,F,G,Q,O⟩
     ·have c:=wck c;have:i=0:=U;subst this;refine d3.fst _ ⟨a,A,rfl,H,F,G,Q,λhn=>?_⟩;obtain⟨N,e2⟩:=O hn;refine⟨N,λ_ j x hx g7 t b3=>e2 j U x hx g7 t ?_⟩;have:f.getD p.1.toNat []=f[q]:=by rw[hq];simp[List.getD,a4]
      rwa [this]at b3
    grind
   ·subst Z;dsimp only;refine wab (λcn=>d5 _ ⟨true,A,rfl,H,F,G,λ_=>?_,λh=>by cases h⟩) (λcn=>?_)
    ·have:=Q cn;cases a3:d with
     |true=>have:=ht a3;omega
     |false=>have:=(hf a3).1;subst this;omega
    ·obtain⟨N,e2⟩:=O cn;subst N;refine d5 _ ⟨d,A,rfl,H,F,G,ht,λg3=>?_⟩;obtain⟨e3,e4⟩:=hf g3;refine⟨e3,λj hj y M=>?_⟩;by_cases g1:j<k
     ·exact e4 j g1 y M
     ·have:j=k:=U;subst this;rw[c3]at M;cases M;rw[hq,wcz,<- e3];exact e2
  ·subst Z;dsimp only;refine Tt.b1 ?_;rw[wI U U];exact g5 (g.2.2.1.length-(k+1)) _ U ⟨k+1,d,f,U,rfl,V,S,L,R,ht,hf⟩
 ·have c:=wck c;cases a3:d with
  |true=>
   have:=ht a3;exact Tt.fst (d4 (2*Q8 T f+1) _ U ⟨true,f,rfl,rfl,S,L,R,λh=>by cases h⟩)
  |false=>
   obtain⟨N,e2⟩:=hf a3;subst N;exact Tt.fst (d4 (2*Q8 T f) _ U ⟨false,f,rfl,rfl,S,L,R,λ_ p hp=>by
    obtain⟨i,hi⟩:=wdc hp;exact e2 i (by have:=(wcl.1 hi).1;omega) p hi⟩)
def RsM(m:PM):Prop:=∀e∈m,jx e.2
def RsB(i:Int)(m:PM):Prop:=∀e∈m,jx e.2/\∀x∈e.2,x<i
def RsT(i left:Int)(ts:W7)(m:PM):Prop:=∀e∈m,jx e.2/\(∀x∈e.2,x<=i)/\((∃t∈ts,e.1=(left,t))->∀x∈e.2,x<i)
def jf6{m g:PM}{a:Int×Int}{v:Int}(h:zlh plq 8 m a v=some g):∀e∈g,e∈m\/e=(a,[v])\/∃b∈m,b.1=a/\e=(a,b.2++[v]):=by unfold zlh at h;cases d:kIx plq a (m.map (·.1))with|none=>{rw[d]at h;dsimp only at h;obtain⟨z,hz,rfl⟩:=wct.1 h;obtain⟨_,_,rfl⟩:=jb8 hz;grind}|some j=>rw[d]at h;dsimp only at h;obtain⟨x,f,c⟩:=zco d;have c:=zxp.1 c;subst c;rw[wcv]at f;obtain⟨b,i,k⟩:=wct.1 f;rw[i]at h;dsimp only at h;obtain⟨z,hz,rfl⟩:=wct.1 h;obtain⟨_,_,rfl⟩:=jb8 hz;grind
def z1a{i left:Int}:∀{ts:W7}{m f:PM},ts.Nodup->RsT i left ts m->zml i left ts m=some f->RsB (i+1) f
 |[],m,f,_,h,e=>by
  cases e;exact λe d=>⟨(h e d).1,λx j=>by have:=(h e d).2.1 x j;omega⟩
 |t::ts,m,f,o,h,e=>by
  rw[wfg]at o;unfold zml at e;obtain⟨A,r,s⟩:=wdi.1 e;refine z1a o.2 (λe d=>?_) s;rcases jf6 r e d with g|rfl|⟨q,g,u,rfl⟩
  {obtain⟨l,p,n⟩:=h e g;exact⟨l,p,λ⟨y,k,c⟩=>n ⟨y,we7 _ k,c⟩⟩};{refine⟨by simp[jx],λx j=>X,λ⟨y,k,c⟩=>?_⟩;grind};.obtain⟨l,p,n⟩:=h q g;have z:=n ⟨t,List.mem_cons_self,u⟩;refine⟨?_,λx j=>?_,λ⟨y,k,c⟩=>?_⟩;{unfold jx;rw[wel];exact⟨l,V,λa v b w=>X⟩};{grind};grind
def zyd{pr:Nat->W7}(d:∀i,(pr i).Nodup):∀{ls:W7}{i:Nat}{m c:PM},RsB (i:Int) m->zol pr i ls m=some c->RsM c
 |[],i,m,c,h,e=>by cases e;exact λe b=>(h e b).1
 |a::l,i,m,c,h,e=>by unfold zol at e;obtain⟨k,f,g⟩:=wdi.1 e;refine zyd d ?_ g;have:=z1a (d i) (λe b=>⟨(h e b).1,λx j=>by have:=(h e b).2 x j;omega,λ_=>(h e b).2⟩) f;grind
def ja1{g:jb}{b rows:W4}{m:PM}{n:Nat}(d:jad g b rows m)(a:∀l∈rows,RN n l):RsM m:=zyd (λi=>by
 simp[List.getD];cases c:rows[i]? with
 |none=>simp
 |some l=>exact(a l (wcq c)).r.imp λh=>U) (λe f=>X) d.go
def Two(g:jb)(em:W8)(al B:W4)(c:Int×Int):Prop:=∃(k b:Nat)(p a:jk),k≠b/\g.2.2.1[k]?=some p/\g.2.2.1[b]?=some a/\c.1=p.1/\c.1=a.1/\inT em al (B.getD p.1.toNat []) c.2 p.2.1/\inT em al (B.getD a.1.toNat []) c.2 a.2.1
def two_of{g:jb}{em:W8}{al B:W4}{m:PM}(h:jdl g em al B m)(u:RsM m){e:(Int×Int)×W7}(n:e∈m)(x:2<=e.2.length):Two g em al B e.1:=by
 obtain⟨i,j,l,o⟩:∃i j l,e.2=i::j::l:=by
  match w:e.2 with
  |[]=>grind
  |[a]=>grind
  |a::b::l=>simp
 obtain⟨k,p,rfl,r,s,_,_,t⟩:=h.pm.says e n i X;obtain⟨q,v,rfl,c,d,_,_,f⟩:=h.pm.says e n j X;have:=u e n;rw[o]at this;have:(k:Int)<q:=(wdj.1 this).1 _ V;exact⟨k,q,p,v,U,r,c,s,d,t,f⟩
def jin{g:jb}{em:W8}{al B:W4}{m:PM}(h:jdl g em al B m){c:Int×Int}(r:Two g em al B c):∃e∈m,e.1=c/\2<=e.2.length:=by
 obtain⟨k,t,p,u,s,n,d,w,o,q,f⟩:=r;obtain⟨x,j,A,C⟩:=h.has k p n _ q;obtain⟨y,v,D,F⟩:=h.has t u d _ f;have i:=zmr h.pm.nd j v X;subst i;refine⟨x,j,X,?_⟩;match z:x.2 with
 |[]=>grind
 |[a]=>
  grind
 |a::b::l=>simp
def CdS(g:jb)(em:W8)(al B:W4)(r:Int×Int×Int):Prop:=(r=(0,0,0)/\∀c,¬Two g em al B c)\/∃c,r=(15,c.1,c.2)/\Two g em al B c/\∀a,Two g em al B a->¬ltP a c
def CdS.one{g:jb}{em:W8}{al B:W4}{r s:Int×Int×Int}(h:CdS g em al B r)(k:CdS g em al B s):r=s:=by
 rcases h with⟨rfl,h⟩|⟨c,rfl,b,e⟩
 .rcases k with⟨rfl,_⟩|⟨d,_,a,_⟩
  {rfl};grind
 .rcases k with⟨_,k⟩|⟨d,rfl,a,f⟩
  {grind};.rw[jmb (f c b) (e d a)]
def CdS.nc{g:jb}{em:W8}{al B:W4}{r:Int×Int×Int}(h:CdS g em al B r)(h0:r.1=0):NC g em al B:=by
 rcases h with⟨_,h⟩|⟨c,rfl,_⟩
 {intro k b p l j a e t d f;by_cases i:k=b;{omega};.exact absurd ⟨k,b,p,l,i,j,a,rfl,e,d,f⟩ (h (p.1,t))};omega
def z56{g:jb}{em:W8}{al B:W4}{m:PM}(h:jdl g em al B m)(n:RsM m):∃r,zlr m=some r/\CdS g em al B r.1:=by
 obtain⟨r,a,_⟩:=je0 h;refine⟨r,a,?_⟩;unfold zlr at a;cases f:(J8 m).2 with
 |false=>
  rw[f]at a;cases a;refine .inl ⟨rfl,λc i=>?_⟩;obtain⟨e,p,q,s⟩:=jin h i;rcases zh1 m with⟨_,d⟩|⟨d,_⟩
  {grind};grind
 |true=>
  rw[f]at a;obtain⟨z,_,rfl⟩:=wct.1 a;rcases zh1 m with⟨d,_⟩|⟨_,⟨e,j,k,l⟩,t⟩
  {grind};.refine .inr ⟨_,rfl,?_,λo b=>?_⟩;{rw[<- k];exact two_of h n j l};.obtain⟨y,u,v,w⟩:=jin h b;grind
def jde{g:jb}{em re:W8}{al B:W4}(j:zad g)(i:GR g)(b:GOk g)(k:Kn g em re al B):Tn (λl=>Qk l g) (λr=>∃d,r.1=(d.1,d.2.1,d.2.2,())/\CdS g em al B d):=by
 obtain⟨rows,m,e,a,c⟩:=jb3 j b k;obtain⟨r,f,h⟩:=z56 c (ja1 e a);exact(jti i e c.pm.nd f).mono λx n=>⟨r.1,X,h⟩
structure KnX(g:jb)(em re:List Bool)(al B:List (List Int)):Prop where
 kn:Kn g em re al B
 emt:∀p∈g.2.2.1,mkT false em p
 ems:MSn false g em
 res:∀i,re[i]?=some true->ReG g i
 als:FRn g em al
 Bs:FoR g em re al (g.1.length+1) B
def emC_mk{r:W8}{p:jk}(h:mkT false r p):emC r p:=λa=>h λx b=>⟨λ_=>(a x b).2,λc=>X⟩
def KnX_of(g:jb)(o:zad g)(n:GR g)(a:GOk g):∃d re e B,KnX g d re e B:=by obtain⟨d,w,b,f,q⟩:=(jr1 g o n a).val;obtain⟨re,i,j,m,l,y⟩:=(jf0 g o n a).val;obtain⟨k,z,e,rfl,x,c,s⟩:=(js8 g o n a d w b).val;obtain⟨B,A,v,h,u,t⟩:=(jl0 g o n a d re e w b x c.r (z6r g a d e x z) i j).val;exact⟨d,re,e,B,⟨w,b,λp C=>emC_mk (f p C),i,j,m,l,z,x,c.r,s,A,v,h.r,u,t⟩,f,q,y,c,h⟩
def fsF(a:Int):W8->Nat->jc
 |[],_=>(0,0,0,())
 |b::l,i=>match b with
  |true=>fsF a l (i+1)
  |false=>(a,i,0,())
def jj3{g:jb}(h:GOk g)(y:jd×W4×Unit){l:W8}(q:l.length=g.2.1.length)(o:Tn (λj=>Jg j g) (λr=>r=l)):Tn (λj=>Z5 j (some (g,y))) (λd=>d=fsF 13 l 0):=by have u:=h.r;unfold Z5;refine Tt.b1 (Waj o waa λr n=>?_);subst n;refine Tt.J (λd=>d=fsF 13 r 0) (λv b=>?_) (λs i=>Tt.pure i);refine Tt.loop (λm s=>∃k,k<=r.length/\m=r.length-k/\s=(13,0,(r.length:Int),(k:Int),r,(0,0,0,()))/\fsF 13 r 0=fsF 13 (r.drop k) k) r.length waa ⟨0,U,Wab,rfl,rfl⟩ λm s⟨k,p,t,i,e⟩ w f=>?_;subst i;dsimp only;refine wad (λc=>?_) (λc=>b.fst _ ?_);{have a:k<r.length:=U;rw[wcy a]at e;refine Tt.at a (wab (λcb=>b.fst _ ?_) λcb=>Tt.b1 ?_);{have cb:r[k]=false:=X;rw[e,cb];rfl};.have cb:r[k]=true:=X;rw[wI U U];exact f (r.length-(k+1)) _ U ⟨k+1,U,rfl,V,by rw[e,cb];rfl⟩};.have:k=r.length:=U;subst this;rw[e,wef];rfl
def jke{g:jb}(h:GOk g)(y:jd×W4×Unit){l:W8}(q:l.length=g.2.1.length)(o:Tn (λj=>Yd j g) (λr=>r=l)):Tn (λj=>Zu j (some (g,y))) (λd=>d=fsF 14 l 0):=by have u:=h.r;unfold Zu;refine Tt.b1 (Waj o waa λr n=>?_);subst n;refine Tt.J (λd=>d=fsF 14 r 0) (λv b=>?_) (λs i=>Tt.pure i);refine Tt.loop (λm s=>∃k,k<=r.length/\m=r.length-k/\s=(14,0,(r.length:Int),(k:Int),r,(0,0,0,()))/\fsF 14 r 0=fsF 14 (r.drop k) k) r.length waa ⟨0,U,Wab,rfl,rfl⟩ λm s⟨k,p,t,i,e⟩ w f=>?_;subst i;dsimp only;refine wad (λc=>?_) (λc=>b.fst _ ?_);{have a:k<r.length:=U;rw[wcy a]at e;refine Tt.at a (wab (λcb=>b.fst _ ?_) λcb=>Tt.b1 ?_);{have cb:r[k]=false:=X;rw[e,cb];rfl};.have cb:r[k]=true:=X;rw[wI U U];exact f (r.length-(k+1)) _ U ⟨k+1,U,rfl,V,by rw[e,cb];rfl⟩};.have:k=r.length:=U;subst this;rw[e,wef];rfl
def jli{g:jb}{em re:W8}{al B:W4}(c:zad g)(b:GR g)(a:GOk g)(e:Kn g em re al B)(y:jd×W4×Unit):Tn (λh=>V3 h (some (g,y))) (λr=>∃d,r=(d.1,d.2.1,d.2.2,())/\CdS g em al B d):=by unfold V3;refine Tt.b1 (Waj (jde c b a e) waa λr f=>Tt.pure f)
def setA4(a:Wb){k:Nat}(h:k<4)(x:Int):∃b,zv5 a (k:Int) x=some b:=by have c:=a.2;unfold zv5;simp_all
def at4(a:Wb){k:Nat}(h:k<4):∃x,atL a.l (k:Int)=some x:=⟨_,atN (by have:=a.2;omega)⟩
def z93(l:W6)(t:l.length<=1000000):Tn (λp=>Qs p l) (λ_=>True):=by unfold Qs;refine Tt.loop (λm s=>∃k a b,k<=l.length/\m=l.length-k/\s=(l,(l.length:Int),(k:Int),a,b)) l.length waa ⟨0,_,_,U,U,rfl⟩ λm s⟨k,a,b,r,u,h⟩ w f=>?_;subst h;dsimp only;refine wad (λc=>?_) (λc=>Tt.pure trivial);have e:k<l.length:=U;refine Tt.at e (Tt.loop (λm s=>∃i a b,i<=4/\m=4-i/\s=(l,(l.length:Int),(k:Int),(i:Int),a,b,l[k])) 4 waa.fst ⟨0,_,_,U,Wab,rfl⟩ λv s⟨i,a,b,q,j,h⟩ A g=>?_);subst h;dsimp only;refine wad (λc=>?_) (λc=>Tt.b1 ?_);{have d:i<4:=U;obtain⟨x,n⟩:=at4 b d;obtain⟨y,o⟩:=at4 l[k] d;obtain⟨z,hz⟩:=setA4 b d (orI .u64 x y);refine waj d (wac _ n (waj d (wac _ o (waj d (wac _ hz (wai ?_))))));exact g (4-(i+1)) _ U ⟨i+1,a,z,U,rfl,V⟩};.rw[wI U U];exact Tt.fst (f (l.length-(k+1)) _ U ⟨k+1,a,b,U,rfl,V⟩)
def zc8(a b:Wb):Tn (λc=>Qs c [a,b]) (λ_=>True):=z93 _ V
def jux(a b:jo):Tn (λe=>Z9 e a b) (λ_=>True):=by
 unfold Z9;refine Tt.J (λ_=>True) (λd c=>(Tt.b1 (wab (λ_=>c _ trivial) λ_=>c _ trivial))) (λs _=>?_)
 .refine wab (λ_=>Tt.pure trivial) λ_=>(Tt.J (λ_=>True) (λd c=>(wab (λ_=>Waj (zc8 _ _) waa λ_ _=>c _ trivial) λ_=>Waj (zc8 _ _) waa λ_ _=>c _ trivial)) (λs _=>?_))
  .refine Tt.J (λ_=>True) (λd c=>?_) (λs _=>Tt.pure trivial);exact wab (λ_=>Waj (zc8 _ _) waa λ_ _=>c _ trivial) λ_=>c _ trivial
def z84(a b:jo):Tn (λd=>Q6 d a b) (λ_=>True):=by
 unfold Q6;refine wab (λ_=>Tt.pure trivial) λ_=>wab (λ_=>Tt.pure trivial) λ_=>(Tt.J (λ_=>True) (λe c=>?_) (λs _=>Tt.pure trivial))
 exact wab (λ_=>Waj (zc8 _ _) waa λ_ _=>Waj (zc8 _ _) waa λ_ _=>c _ trivial) λ_=>Waj (zc8 _ _) waa λ_ _=>Waj (zc8 _ _) waa λ_ _=>c _ trivial
def jk7(x:jh)(l:Wam jo)(n:Nat)(e:arK x.1=some n)(w:n<=l.length):Tn (λq=>Q3 q x l) (λ_=>True):=by
 have g:0<n->∃a,atL l 0=some a:=λh=>⟨_,atN (k:=0) U⟩
 have j:1<n->∃a,atL l 1=some a:=λh=>⟨_,atN (k:=1) U⟩
 unfold Q3;refine wad (λ_=>wab (λ_=>Tt.pure trivial) λ_=>Tt.pure trivial) λr=>?_;refine wad (λc=>?_) λt=>wad (λc=>?_) λu=>wad (λc=>?_) λv=>?_;{rw[c]at e;cases e;obtain⟨a,f⟩:=g U;obtain⟨b,i⟩:=j U;exact wac _ f (wac _ i (Waj (jux _ _) waa λ_ _=>Tt.pure trivial))};{rw[c]at e;cases e;obtain⟨a,f⟩:=g U;obtain⟨b,i⟩:=j U;exact wac _ f (wac _ i (Waj (z84 _ _) waa λ_ _=>Tt.pure trivial))};{rw[c]at e;cases e;obtain⟨a,f⟩:=g U;exact wac _ f (Waj (z84 _ _) waa λ_ _=>Tt.pure trivial)};.refine Tt.J (λs=>s.1=l/\(s.2.1=true->0<n)) (λm d=>?_) (λs⟨o,p⟩=>?_);{refine Tt.b1 (wad (λc=>d _ ⟨rfl,λ_=>?_⟩) λc=>Tt.b1 (d _ ⟨rfl,λh=>?_⟩));{rw[c]at e;cases e;omega};.have c:=wcj h;rw[c]at e;cases e;omega};.refine wab (λc=>?_) λ_=>Tt.pure trivial;obtain⟨a,f⟩:=g (p c);rw[o];refine wac _ f (Tt.J (λ_=>True) (λm d=>wab (λ_=>d _ trivial) λ_=>d _ trivial) (λs _=>?_));refine Tt.J (λ_=>True) (λm d=>?_) (λs _=>Tt.pure trivial);exact wab (λ_=>Waj (z84 _ _) waa λ_ _=>d _ trivial) λ_=>d _ trivial
def zr6{l:Wam jh}{d e:Nat}{k:Nat}(h:zk7 l d=some e)(f:k<l.length){j:Nat}(c:zk7 (l.take k) d=some j):∃n,arK (l[k]).1=some n/\n<=j/\zk7 (l.take (k+1)) d=some (j-n+1):=by have g:l=l.take (k+1)++l.drop (k+1):=(wd0 _ _).symm;have a:zk7 (l.take (k+1)) d=match arK (l[k]).1 with|none=>none|some n=>if n<=j then some (j-n+1)else none:=by{rw[wcp f,zhz,c];rfl};rw[g,zhz]at h;cases b:arK (l[k]).1 with|none=>{grind}|some n=>rw[b]at a;dsimp only at a;by_cases i:n<=j;{grind};grind
def jey(l:Wam jh)(G:l.length<=1000000):Tn (λL=>Y2 L l) (λ_=>True):=by
 unfold Y2;refine Tt.J (λ_=>True) (λQ o=>?_) (λs _=>Tt.pure trivial);refine Waj (jkj l G) waa λe F=>(wad (λ_=>o _ trivial) λc=>?_)
 obtain⟨i,y⟩:=F U;refine Tt.loop (λm s=>∃k f st,k<=l.length/\m=l.length-k/\s=(l,(l.length:Int),(k:Int),f,st)/\zk7 (l.take k) 0=some st.length/\st.length<=k) l.length waa ⟨0,_,[],U,U,rfl,rfl,V⟩ λm s⟨k,f,st,N,O,g,z,I⟩ R w=>?_;subst g;dsimp only;refine wab (λc=>?_) (λc=>?_);{have c:=wcj c;have j:k<l.length:=U;obtain⟨n,v,H,C⟩:=zr6 i j z;refine Tt.at j (Tt.J (λs=>s=((n:Int),l,(l.length:Int),(k:Int),f,st,l[k])) (λS d=>?_) (λs g=>?_));{refine Tt.J (λs=>∃b,s=(0,l,(l.length:Int),(k:Int),(l[k]).1,b,f,st,l[k])/\(b=true↔((l[k]).1=3\/(l[k]).1=4))) (λT p=>?_) (λs⟨b,g,t⟩=>?_);{refine Tt.b1 (wad (λc=>p _ ⟨_,rfl,?_⟩) (λc=>Tt.b1 (p _ ⟨_,rfl,?_⟩)));{have:=c;simp[this]};.have:=c;simp[this]};.subst g;dsimp only;refine wab (λc=>d _ ?_) (λc=>?_);{have:=t.1 c;rw[arK,if_pos this]at v;grind};.have q:¬((l[k]).1=3\/(l[k]).1=4):=λh=>by{rw[t.2 h]at c;cases c};refine Tt.J (λs=>∃b,s=(0,l,(l.length:Int),(k:Int),b,f,st,l[k])/\(b=true↔((l[k]).1=5\/(l[k]).1=6\/(l[k]).1=7))) (λP a=>?_) (λs⟨b,g,t⟩=>?_);{refine Tt.b1 (wab (λc=>a _ ⟨_,rfl,?_⟩) (λc=>Tt.b1 (wab (λA=>a _ ⟨_,rfl,?_⟩) (λA=>Tt.b1 (a _ ⟨_,rfl,?_⟩)))));{grind};{grind};grind};.subst g;dsimp only;rw[arK,if_neg q]at v;refine wab (λc=>d _ ?_) (λc=>d _ ?_);{grind};grind};.subst g;dsimp only;refine wai ?_;have B:(st.length:Int)-(n:Int)=((st.length-n:Nat):Int):=U;rw[B];refine wac (st.length-n) (by unfold zpn;simp) ?_;have D:(st.drop (st.length-n)).length=n:=X;refine wac _ (ye X U) ?_;rw[wet];refine Waj (jk7 _ _ n v U) waa.fst λr _=>?_;refine wac (st.take (st.length-n)) (by unfold zak;simp) (wac _ (ye X U) (wai ?_));have M:(st.take (st.length-n)++[r]).length=st.length-n+1:=V;exact w (l.length-(k+1)) _ U ⟨k+1,f,_,U,rfl,rfl,X,U⟩};.have c:=wck c;have u:k=l.length:=U;rw[u,wc7,i]at z;have x:0<st.length:=X;exact waj x (Tt.at x (o.fst _ trivial))
def z9t(l:Wam jh)(a:l.length<=1000000):Tn (λb=>yp b l) (λ_=>True):=by unfold yp;refine Tt.bind (R:=λ_=>True) ?_ λ_ _=>Tt.pure trivial;unfold Y7;exact Waj (jey l a) waa λr _=>wab (λ_=>Tt.pure trivial) λ_=>Tt.pure trivial
def sm7{α:Type}{a b:Wam α}(h:a.length<=1000000):Go.Proofs.YtigdmmgklieofaaGreat.small7 a b=some b:=by unfold Go.Proofs.YtigdmmgklieofaaGreat.small7;grind
section
variable{α:Type}{s:List α}{b:α}
def popZ(h:s.length<=1000000):T.w64 (((s++[b]).length:Int)-1)=(s.length:Int):=by rw[wc1,wdd,wI U U];omega
def jou(h:s.length<=1000000):jq (s++[b]).length (T.w64 (((s++[b]).length:Int)-1))=some (s.length:Int):=by rw[popZ h];exact vn V
def jrf:atL (s++[b]) (s.length:Int)=some b:=Qf U V
def truncN{k:Nat}(h:k<=s.length):zak s (k:Int)=some (s.take k):=by unfold zak;grind
def jrc(h:s.length<=1000000):zak (s++[b]) (T.w64 (((s++[b]).length:Int)-1))=some s:=by rw[popZ h,truncN V];simp
def zx8{l:Wam α}(h:0<l.length):∃s b,l=s++[b]:=by
 rcases List.eq_nil_or_concat l with rfl|⟨s,b,rfl⟩
 {grind};simp
end
abbrev OvS:=(List jh)×Int×Int×Bool×Int×qy×(List (Arr 4 Int))×(List (List Int))×(List Int)×(List Int)×(List qy)
def mid_eq(a b:Nat)(h:a+b<=2000000):zvl .u64 (wr .u64 (T.w64 ((a:Int)+(b:Int)))) 1=some (((a+b) / 2:Nat):Int):=by rw[wI U U];unfold wr zvl;rw[zey U U,if_neg U];have:min (1:Int).toNat IntKind.u64.bits=1:=Wab;grind
structure zkv(N M:Nat)(n:jl):Prop where
 s:n.1.length<=N
 o:n.2.1.length<=M
 l:n.2.2.1.length<=M
 f:n.2.2.2.1.length<=M
 fr:∀x∈n.2.2.2.1,x.length<=512
 fi:n.2.2.2.2.1.length<=M
def ris_of{l:W7}(h:∀i(h:i+1<l.length),l[i]<l[i+1]):jx l:=by have a:∀d i(c:i+d+1<l.length),l[i]<l[i+d+1]:=by{intro d;induction d with|zero=>{omega}|succ d g=>grind};refine we3.2 λi j e f b=>?_;have:=a (j-i-1) i U;simpa [show i+(j-i-1)+1=j by omega]using this
def jw0{N:Nat}{l:W7}(b:jx l)(h:(a:0<l.length)->0<=l[0]/\l[l.length-1]<(N:Int)):RN N l:=by refine⟨b,λx d=>?_⟩;obtain⟨i,c,rfl⟩:=List.mem_iff_getElem.1 d;obtain⟨j,k⟩:=h U;have a:=we3.1 b;have f:l[0]<=l[i]:=by{grind};have g:l[i]<=l[l.length-1]:=by{by_cases e:i=l.length-1;{grind};.have:=a i (l.length-1) c U U;omega};omega
structure NetOk(n:jl):Prop where
 o:n.2.1.length=n.1.length
 l:n.2.2.1.length=n.1.length
 f:n.2.2.2.1.length=n.1.length
 fi:RN n.1.length n.2.2.2.2.1
 fo:∀x∈n.2.2.2.1,RN n.1.length x
def jnm{b:Nat}(h:b<256):zv6 .u8 (b:Int) 64=some ((b / 64:Nat):Int):=by unfold zv6;rw[if_neg V,show((b:Int)).tdiv 64=((b / 64:Nat):Int)from(Int.ofNat_tdiv b 64).symm,Qy U U]
def jig(b:Nat):z3e .u8 (b:Int) 64=some ((b % 64:Nat):Int):=by rfl
def RN.sub{N:Nat}{a b:W7}(h:RN N b)(c:a.Sublist b):RN N a:=⟨we2 c h.r,λx d=>h.b x (c.subset d)⟩
def jo1(s:Wb)(b:Nat)(a:b<256):Tn (λd=>zds d s (b:Int)) (λ_=>True):=by unfold zds;obtain⟨x,c⟩:=at4 s (k:=b / 64) U;refine wac _ (jnm a) (waj U (wac _ c (wac _ (jig b) ?_)));exact wac _ (show jav .u64 1 ((b % 64:Nat):Int)=some _ by rfl) (Tt.pure trivial)
section
variable{α β:Type}{eqb:α → α → Bool}
def zj2:∀{m:Wam (α×β×Unit)}{k:α}{v:β},zl eqb m k=none->Yq eqb m k v=m++[(k,v,())]
 |[],_,_,_=>rfl
 |e::r,k,v,h=>by unfold zl at h;unfold Yq;cases a:eqb k e.1;{rw[a]at h;simp[weq,zj2 h]};grind
def zm0{k:α}{v:β}(b:eqb k k=true):∀{m:Wam (α×β×Unit)},zl eqb (Yq eqb m k v) k=some v
 |[]=>by unfold Yq zl;grind
 |e::r=>by unfold Yq;cases a:eqb k e.1;{unfold zl;rw[a];exact zm0 b};.unfold zl;grind
def z5e:∀{m:Wam (α×β×Unit)}{k:α}{v:β},zl eqb m k=some v->∃(j:Nat)(e:α×β×Unit),m[j]?=some e/\e.2.1=v
 |[],_,_,h=>by cases h
 |e::r,k,v,h=>by unfold zl at h;cases a:eqb k e.1;{rw[a]at h;obtain⟨j,b,d,c⟩:=z5e h;exact⟨j+1,b,X,c⟩};.rw[a]at h;cases h;exact⟨0,e,rfl,rfl⟩
end
def jhw(k:yc):Vm k k=true:=by simp[Vm,zzj]
def zxq{n:Nat}{α:Type}(a:Arr n α){k:Nat}(h:k<n)(x:α):∃b,zv5 a (k:Int) x=some b/\b.l=a.l.set k x:=by refine⟨⟨a.l.set k x,by rw[wdz,a.h]⟩,?_,rfl⟩;unfold zv5;grind
structure ClsN(a:Arr 256 Int)(n:Nat):Prop where
 h1:1<=n
 h2:n<=256
 lt:∀(b:Nat)(x:Int),a.l[b]?=some x->∃j:Nat,j<n/\x=j
 on:∀j:Nat,j<n->∃b:Nat,a.l[b]?=some (j:Int)
def ClsN.zero:ClsN ⟨replicate 256 0,wci⟩ 1:=
 ⟨U,U,λb x h=>⟨0,U,X⟩,λj a=>⟨0,X⟩⟩
structure SplI(k:Nat)(a:Arr 256 Int)(m:List (yc×Int×Unit)):Prop where
 v:∀(j:Nat)(e:yc×Int×Unit),m[j]?=some e->e.2.1=j
 l:m.length<=k
 p:0<k->0<m.length
 lt:∀(b:Nat)(x:Int),b<k->a.l[b]?=some x->∃j:Nat,j<m.length/\x=j
 on:∀j:Nat,j<m.length->∃b:Nat,b<k/\a.l[b]?=some (j:Int)
def SplI.step{k:Nat}{a d:Wa}{m c:Wam (yc×Int×Unit)}(h:SplI k a m)(B:k<256){j:Nat}(y:d.l=a.l.set k (j:Int))(hm:c=m/\j<m.length\/∃x,c=m++[(x,(m.length:Int),())]/\j=m.length):SplI (k+1) d c:=by
 have C:=a.h;have z:d.l[k]?=some (j:Int):=X;have w:∀b,b≠k->d.l[b]?=a.l[b]?:=λb t=>X;have A:j<c.length/\m.length<=c.length/\c.length<=m.length+1:=by{grind};refine⟨λi e o=>?_,by have:=h.l;omega,λ_=>U,λb x t r=>?_,λi q=>?_⟩
 .rcases hm with⟨f,g⟩|⟨x,f,g⟩
  {subst f;exact h.v i e o};.subst f;by_cases q:i<m.length;{rw[wcx q]at o;exact h.v i e o};grind
 {by_cases n:b=k;{grind};.rw[w b n]at r;obtain⟨i,s,g⟩:=h.lt b x U r;grind};.by_cases u:i=j;{grind};.have p:i<m.length:=by{grind};obtain⟨b,s,g⟩:=h.on i p;grind
def jko(a:Wa)(s:Wb):Tn (λS=>Ye S a s) (λr=>∃n,ClsN r n):=by unfold Ye;refine Tt.loop (λj t=>∃(k:Nat)(g:Wa)(m:Wam (yc×Int×Unit)),k<=256/\j=256-k/\t=((k:Int),g,s,⟨replicate 256 0,wci⟩,m)/\SplI k g m) 256 waa ⟨0,_,_,U,U,rfl,⟨λj e h=>by simp at h,V,U,λb x h=>U,λj h=>by simp at h⟩⟩ λj t⟨k,g,m,Y,G,A,o⟩ Z z=>?_;subst A;dsimp only;refine wad (λc=>?_) (λc=>Tt.pure ?_);{have d:k<256:=U;have P:=g.h;have C:wr .u8 (k:Int)=(k:Int):=Qy U U;refine waj d (Tt.at U ?_);rw[C];refine Waj (jo1 s k d) waa.fst λr _=>?_;generalize H:((g.l[k]'U,r,()):yc)=f;have R:=o.l;refine Tt.J (λt=>∃(q:Wam (yc×Int×Unit))(j:Nat),t=((k:Int),(k:Int),g,s,⟨replicate 256 0,wci⟩,q,f)/\zl Vm q f=some (j:Int)/\(q=m/\j<m.length\/∃x,q=m++[(x,(m.length:Int),())]/\j=m.length)) (λny u=>?_) λt⟨q,j,A,w,Q⟩=>?_;{refine Tt.b1 ?_;cases w:zl Vm m f with|none=>{refine wah rfl (Tt.b1 (Tt.b1 (u _ ⟨_,m.length,rfl,?_,Or.inr ⟨f,?_,rfl⟩⟩)));{have B:wr .u8 (m.length:Int)=(m.length:Int):=Qy U U;rw[B];exact zm0 (jhw f)};.have B:wr .u8 (m.length:Int)=(m.length:Int):=Qy U U;rw[B];exact zj2 w}|some v=>obtain⟨i,e,D,F⟩:=z5e w;have T:=o.v i e D;have O:i<m.length:=by{grind};refine wae rfl (u _ ⟨m,i,rfl,?_,Or.inl ⟨rfl,O⟩⟩);grind};.subst A;dsimp only;rw[w];obtain⟨L,M,N⟩:=zxq g d (j:Int);refine Tt.b1 (waj d (wac _ M (wai ?_)));exact z (256-(k+1)) _ U ⟨k+1,L,q,U,rfl,rfl,o.step d N Q⟩};.have y:k=256:=U;subst y;refine⟨m.length,o.p U,o.l,λb x I=>o.lt b x ?_ I,λj G=>?_⟩;{have:=wcl.1 I;have F:=g.h;grind};.obtain⟨b,D,F⟩:=o.on j G;grind
def z6d(a:Wa){n:Nat}(h:ClsN a n):Tn (λy=>Yg y a) (λr=>r=(n:Int)):=by have B:=a.h;have C:=h.h2;unfold Yg;refine Tt.loop (λj t=>∃(k w:Nat),k<=256/\j=256-k/\t=((w:Int),a,(k:Int))/\w<=n/\∀b x,b<k->a.l[b]?=some x->x<(w:Int)) 256 waa ⟨0,0,U,Wab,rfl,U,λb x h=>U⟩ λj t⟨k,w,A,z,u,D,q⟩ F d=>?_;subst u;dsimp only;refine wad (λc=>?_) (λc=>Tt.pure ?_);{have s:k<256:=U;refine Tt.at U ?_;obtain⟨i,g,m⟩:=h.lt k (a.l[k]'U) V;have e:wr .i64 (a.l[k]'U)=(i:Int):=by{rw[m];exact zbv U U};have f:max (w:Int) (T.w64 (wr .i64 (a.l[k]'U)+1))=((max w (i+1):Nat):Int):=by{rw[e,wI U U];omega};rw[f];refine Tt.b1 (wai ?_);refine d (256-(k+1)) _ U ⟨k+1,_,U,rfl,rfl,U,λb x o v=>?_⟩;by_cases p:b=k;{grind};.have:=q b x U v;omega};.have g:=h.h1;obtain⟨b,o⟩:=h.on (n-1) U;grind
def jjn(a:Wa){n:Nat}(h:ClsN a n)(c:Nat)(C:c<n):Tn (λG=>Vh G a (c:Int)) (λr=>∃b:Nat,b<256/\atL r 0=some (b:Int)):=by have L:=a.h;have M:=h.h2;unfold Vh;refine Tt.loop (λj t=>∃(k:Nat)(out:W7),k<=256/\j=256-k/\t=((c:Int),(k:Int),a,out)/\out.length<=k/\(∀x∈out,∃b:Nat,b<256/\x=(b:Int))/\((∃b,b<k/\a.l[b]?=some (c:Int))->0<out.length)) 256 waa ⟨0,_,U,U,rfl,V,V,λ⟨b,h,_⟩=>U⟩ λj t⟨k,out,I,H,s,N,w,v⟩ O q=>?_;subst s;dsimp only;refine wad (λz=>?_) (λz=>Tt.pure ?_);{have p:k<256:=U;refine Tt.J (λt=>∃d,t=((c:Int),(k:Int),a,d)/\d.length<=k+1/\(∀x∈d,∃b:Nat,b<256/\x=(b:Int))/\((∃b,b<k+1/\a.l[b]?=some (c:Int))->0<d.length)) (λP f=>?_) λt⟨d,s,g,e,u⟩=>?_;{refine waj p (Tt.at U ?_);obtain⟨i,g,e⟩:=h.lt k (a.l[k]'U) V;have B:wr .i64 (a.l[k]'U)=(i:Int):=by{rw[e];exact zbv U U};rw[B];refine wab (λA=>?_) λA=>f _ ⟨_,rfl,U,w,λ⟨b,m,o⟩=>?_⟩;{have D:wr .u8 (k:Int)=(k:Int):=Qy U U;rw[D];refine wac _ (ye X U) (f _ ⟨_,rfl,X,λx F=>?_,λ_=>V⟩);grind};.refine v ⟨b,?_,o⟩;grind};.subst s;refine Tt.b1 ?_;dsimp only;rw[wI U U];exact q (256-(k+1)) _ U ⟨k+1,_,U,rfl,rfl,g,e,u⟩};.obtain⟨b,m⟩:=h.on c C;have u:=(wcl.1 m).1;have:=v ⟨b,U,m⟩;cases out with|nil=>{grind}|cons x r=>obtain⟨y,g,e⟩:=w x V;exact⟨y,g,by rw[e];rfl⟩
structure DSz(d:jd):Prop where
 c:∃n,ClsN d.1 n
 w:0<=d.2.1/\d.2.1<=256
 n:d.2.2.1.length<=300
 l:d.2.2.2.1.length<=300
 r:∀x∈d.2.2.1,x.length<=256
def DSz.zero:DSz (⟨replicate 256 0,wci⟩,0,[],[],()):=⟨⟨1,ClsN.zero⟩,V,V,V,V⟩
abbrev Wh:=List ((List UInt8)×Int×Unit)
abbrev DBS:=Int×Int×Int×Int×jl×(Arr 256 Int)×Int×(Arr 256 Int)×Int×(List Int)×(List (List Int))×(List Int)×(List (List Int))×(List Int)×(List (List Int))×Wh
def jfu(a:Wa):Tn (λe=>Yg e a) (λr=>True):=by have i:=a.h;unfold Yg;refine Tt.loop (λj t=>∃k w,k<=256/\j=256-k/\t=(w,a,(k:Int))) 256 waa ⟨0,0,U,Wab,rfl⟩ λj t⟨k,w,g,f,d⟩ l b=>?_;subst d;dsimp only;refine wad (λc=>?_) (λc=>Tt.pure trivial);refine Tt.at U (Tt.b1 (Tt.b1 ?_));rw[wI (z:=(k:Int)+1) U U];exact b (256-(k+1)) _ U ⟨k+1,_,U,rfl,rfl⟩
def jez(a:Wa):Tn (λb=>Zz b a) (λr=>True):=by unfold Zz;exact Waj (jko a _) waa λr _=>Tt.pure trivial
structure DRt(d:jd):Prop where
 n0:0<d.2.2.1.length
 lab:d.2.2.2.1.length=d.2.2.1.length
 row:∀x∈d.2.2.1,(x.length:Int)=d.2.1
 nx:∀x∈d.2.2.1,∀y∈x, -1<=y/\y<(d.2.2.1.length:Int)
def z5l{α:Type}{l:Wam α}{k:Nat}(h:k<l.length){P:α->Prop}(b:∀x∈l.take k,P x)(c:P l[k]):∀x∈l.take (k+1),P x:=λx a=>by rw[wcp h]at a;grind
def zz7(d:jd)(u:DSz d):Tn (λH=>Jm H d) (λb=>b=true->DRt d):=by
 have S:=u.n;have T:=u.l;unfold Jm;refine Tt.b1 (Tt.J (λs=>∃b,s=((d.2.2.1.length:Int),b,d)/\(b=false->0<d.2.2.1.length/\d.2.2.2.1.length=d.2.2.1.length)) (λI a=>?_) λs⟨b,e,p⟩=>?_)
 .refine Tt.b1 (wab (λc=>a _ ⟨_,rfl,λh=>by cases h⟩) λc=>wab (λc=>a _ ⟨_,rfl,λh=>by cases h⟩) λM=>?_);refine Waj (jez _) waa λr _=>wab (λc=>a _ ⟨_,rfl,λh=>by cases h⟩) λN=>(Waj (jfu _) waa λr _=>a _ ⟨_,rfl,λ_=>?_⟩)
  grind
 subst e;dsimp only;refine wab (λ_=>Tt.pure λh=>X) λc=>?_;obtain⟨C,D⟩:=p c;refine Tt.J (λb=>b=true->DRt d) (λI a=>?_) λs e=>Tt.pure e;refine Tt.loop (λm s=>∃k,k<=d.2.2.1.length/\m=d.2.2.1.length-k/\s=((d.2.2.1.length:Int),true,d.2.2.1,(d.2.2.1.length:Int),(k:Int),d)/\∀x∈d.2.2.1.take k,(x.length:Int)=d.2.1/\∀y∈x, -1<=y/\y<(d.2.2.1.length:Int)) d.2.2.1.length waa ⟨0,U,Wab,rfl,V⟩ λm s⟨k,P,F,e,t⟩ R z=>?_;subst e;dsimp only;refine wab (λc=>?_) (λc=>a.fst _ λ_=>?_);{have c:=wcj c;have o:k<d.2.2.1.length:=U;have G:=u.r _ (wcm o);refine Tt.at o (Tt.J (λs=>∃b,s=((d.2.2.1.length:Int),true,d.2.2.1[k],d.2.2.1,(d.2.2.1.length:Int),(k:Int),b,d)/\(b=false->((d.2.2.1[k]).length:Int)=d.2.1)) (λL f=>?_) λs⟨b,e,p⟩=>?_);{refine Tt.b1 (wad (λc=>f _ ⟨_,rfl,λh=>by cases h⟩) λc=>?_);exact Tt.at U (f _ ⟨_,rfl,λ_=>U⟩)};.subst e;dsimp only;refine wab (λ_=>a.fst _ λh=>X) λc=>?_;have A:=p c;refine Tt.loop (λm s=>∃j,j<=(d.2.2.1[k]).length/\m=(d.2.2.1[k]).length-j/\s=((d.2.2.1.length:Int),true,d.2.2.1,(d.2.2.1.length:Int),(k:Int),d.2.2.1[k],((d.2.2.1[k]).length:Int),(j:Int),d)/\∀y∈(d.2.2.1[k]).take j, -1<=y/\y<(d.2.2.1.length:Int)) (d.2.2.1[k]).length waa.fst ⟨0,U,U,rfl,V⟩ λm s⟨j,O,F,e,i⟩ L f=>?_;subst e;dsimp only;refine wab (λc=>?_) (λc=>?_);{have c:=wcj c;have g:j<(d.2.2.1[k]).length:=U;refine Tt.at g (Tt.J (λs=>∃b,s=((d.2.2.1.length:Int),true,d.2.2.1,(d.2.2.1.length:Int),(k:Int),d.2.2.1[k],((d.2.2.1[k]).length:Int),(j:Int),b,d)/\(b=false -> -1<=(d.2.2.1[k])[j]/\(d.2.2.1[k])[j]<(d.2.2.1.length:Int))) (λQ q=>?_) λs⟨b,e,p⟩=>?_);{refine Tt.b1 (wab (λc=>q _ ⟨_,rfl,λh=>X⟩) λc=>q _ ⟨_,rfl,λh=>?_⟩);grind};.subst e;dsimp only;refine wab (λ_=>a.fst.fst _ λh=>X) λc=>wai ?_;exact f ((d.2.2.1[k]).length-(j+1)) _ U ⟨j+1,U,rfl,rfl,z5l g i (p c)⟩};.have c:=wck c;have v:j=(d.2.2.1[k]).length:=U;rw[v,wc7]at i;refine wai ?_;exact(z (d.2.2.1.length-(k+1)) _ U ⟨k+1,U,rfl,rfl,z5l o t ⟨A,i⟩⟩).fst};.have c:=wck c;have w:k=d.2.2.1.length:=U;rw[w,wc7]at t;exact⟨C,D,λx B=>(t x B).1,λx B=>(t x B).2⟩
end
end Go.Proofs.YtigdmmgklieofaaGreat.T
namespace Go.Proofs.YtigdmmgklieofaaGreat
noncomputable section
open _root_.Go.Proofs.Tryz
set_option maxRecDepth 100000
set_option maxHeartbeats 8000000
set_option linter.unusedVariables false
set_option linter.unusedSimpArgs false
set_option linter.defProp false
open List (replicate range)
open Go Go.RowKit L
def at'{α:Type}[Inhabited α](l:List α)(z:Int):α:=l.getD z.toNat default
def yf{α:Type}[Inhabited α]{l:Wam α}{k:Nat}(h:k<l.length):at' l (k:Int)=l[k]:=by unfold at';grind
def zgz{α:Type}[Inhabited α]{l:Wam α}{z:Int}(h0:0<=z)(b:z<l.length):at' l z∈l:=by obtain⟨k,rfl⟩:=wdw h0;have a:k<l.length:=U;rw[yf a];simp
def za3{α:Type}[Inhabited α]{l:Wam α}{k:Nat}(h:k<l.length)(x:α):x∈l.take (k+1)↔x∈l.take k\/x=at' l (k:Int):=by rw[wcp h,yf h,wcu];simp
def jmw{l:Wam Bool}{z:Int}{j:Nat}(h0:0<=z)(a:z<l.length):onB (l.set z.toNat true) j↔(j:Int)=z\/onB l j:=by rw[yr U];grind
structure SpI(n:Nat)(E:Nat->Nat->Prop)(S:Nat->Prop)(c:Nat)(l:List Bool)(w:List Int):Prop where
 h1:l.length=n
 h2:∀x∈w,0<=x/\x<n/\onB l x.toNat
 h3:∀i,onB l i->Rch E S i
 h4:∀i,S i->onB l i
 h5:∀i j,onB l i->E i j->onB l j\/(i:Int)∈w
 h6:w.length+offs l<=c
def SpI.done{n c:Nat}{E:Nat->Nat->Prop}{S:Nat->Prop}{l:Wam Bool}(h:SpI n E S c l []):l=Zj n E S:=z64 h.h1 h.h3 h.h4 λi j b a=>by rcases h.h5 i j b a with h|h;{omega};grind
structure SpJ(n:Nat)(E:Nat->Nat->Prop)(S:Nat->Prop)(c M:Nat)(x:Nat)(nx:List Int)(k:Nat)(l:List Bool)(w:List Int):Prop where
 j1:l.length=n
 j2:∀y∈w,0<=y/\y<n/\onB l y.toNat
 j3:∀i,onB l i->Rch E S i
 j4:∀i,S i->onB l i
 j5:∀i j,onB l i->E i j->onB l j\/(i:Int)∈w\/i=x
 j6:∀y∈nx.take k,onB l y.toNat
 j7:onB l x
 j8:w.length+offs l<=c
 j9:2*offs l+w.length<=M
section
variable{n c M x k:Nat}{E:Nat → Nat → Prop}{S:Nat → Prop}{l:List Bool}{w nx:List Int}
def SpI.pop{z:Int}(h:SpI n E S c l (z::w)):0<=z/\z<n/\SpJ n E S c (2*offs l+w.length) z.toNat nx 0 l w:=by obtain⟨d,e,f⟩:=h.h2 z V;refine⟨d,e,h.h1,λy g=>h.h2 y X,h.h3,h.h4,λi j b a=>?_,V,f,by have:=h.h6;grind,wcs _⟩;rcases h.h5 i j b a with h|h;{grind};grind
def SpJ.same(h:SpJ n E S c M x nx k l w)(b:k<nx.length)(h0:0<=nx[k])(e:onB l (nx[k]).toNat):SpJ n E S c M x nx (k+1) l w:=⟨h.j1,h.j2,h.j3,h.j4,h.j5,λy d=>by
 rcases(za3 b y).1 d with a|a;{exact h.j6 y a};.rw[yf b]at a;grind,h.j7,h.j8,h.j9⟩
def SpJ.push(h:SpJ n E S c M x nx k l w)(q:k<nx.length)(h0:0<=nx[k])(r:nx[k]<n)(s:E x (nx[k]).toNat)(u:l[(nx[k]).toNat]?=some false):SpJ n E S c M x nx (k+1) (l.set (nx[k]).toNat true) (w++[nx[k]]):=by have g:(nx[k]).toNat<l.length:=X;have v:=zl7 u;have m:∀{i},onB l i->onB (l.set (nx[k]).toNat true) i:=λ{i}f=>(yr g).2 (.inr f);refine⟨by simpa using h.j1,λy o=>?_,λi f=>?_,λi f=>m (h.j4 i f),λi j f t=>?_,λy o=>?_,m h.j7,by have:=h.j8;grind,by have:=h.j9;grind⟩;{rcases wcu.1 o with e|e;{obtain⟨a,b,d⟩:=h.j2 y e;grind};.simp at e;subst e;exact⟨h0,r,(yr g).2 (.inl rfl)⟩};{rcases(yr g).1 f with e|e;{exact e ▸ .step (h.j3 x h.j7) s};.exact h.j3 i e};{rcases(yr g).1 f with e|e;{grind};.rcases h.j5 i j e t with p|p|p;{grind};{grind};omega};.rcases(za3 q y).1 o with e|e;{exact m (h.j6 y e)};.rw[yf q]at e;subst e;exact(yr g).2 (.inl rfl)
def SpJ.out(h:SpJ n E S c M x nx nx.length l w)(e:∀j,E x j->(j:Int)∈nx):SpI n E S c l w:=⟨h.j1,h.j2,h.j3,h.j4,λi j d b=>by
 rcases h.j5 i j d b with a|a|a;{grind};{grind};.subst a;have:=h.j6 (j:Int) X;grind,h.j8⟩
end
end
end Go.Proofs.YtigdmmgklieofaaGreat
namespace Go.Proofs.YtigdmmgklieofaaGreat.T
noncomputable section
open _root_.Go.Proofs.Tryz
set_option maxRecDepth 100000
set_option maxHeartbeats 8000000
set_option linter.unusedVariables false
set_option linter.unusedSimpArgs false
set_option linter.defProp false
open List (replicate range)
open Go Go.RowKit L
structure MOk(d:jd):Prop where
 n0:0<d.2.2.1.length
 lab:d.2.2.2.1.length=d.2.2.1.length
 w:0<=d.2.1/\d.2.1<=256
 row:∀i:Int,0<=i->i<d.2.2.1.length->((at' d.2.2.1 i).length:Int)=d.2.1
 nx:∀i c:Int,0<=i->i<d.2.2.1.length->0<=c->c<d.2.1 -> -1<=at' (at' d.2.2.1 i) c/\at' (at' d.2.2.1 i) c<d.2.2.1.length
def DRt.m{d:jd}(h:DRt d)(f:DSz d):MOk d:=⟨h.n0,h.lab,f.w,λi h0 a=>h.row _ (zgz h0 a),λi c h0 a b e=>by
 have g:=h.row _ (zgz h0 a);exact h.nx _ (zgz h0 a) _ (zgz b U)⟩
def nxt(d:jd)(i:Nat)(c:Int):Int:=at' (at' d.2.2.1 i) c
def dE(d:jd)(i j:Nat):Prop:=i<d.2.2.1.length/\∃c:Int,0<=c/\c<d.2.1/\nxt d i c=j
def Ju(d:jd)(i:Nat):Int:=at' d.2.2.2.1 i
def jhi{d:jd}(hm:MOk d){i:Nat}(hi:i<d.2.2.1.length){x:Int}:x∈at' d.2.2.1 i↔∃c,0<=c/\c<d.2.1/\nxt d i c=x:=by have e:=hm.row i U U;constructor;{intro h;obtain⟨c,a,rfl⟩:=wei h;exact⟨c,U,U,by unfold nxt;rw[yf a]⟩};.rintro⟨c,h0,b,rfl⟩;exact zgz h0 U
abbrev onL(d:jd)(i:Nat):List Int:=(at' d.2.2.1 i).filter λx=>decide (0<=x)
def jcg(d:jd)(hm:MOk d)(i:Nat)(hi:i<d.2.2.1.length):(onL d i).length<=256/\(∀x∈onL d i,0<=x/\x<d.2.2.1.length)/\∀j:Nat,(j:Int)∈onL d i↔dE d i j:=by have k:=hm.w;have h:=hm.row i U U;refine⟨wdv (List.length_filter_le ..) U,λx g=>?_,λj=>?_⟩;{obtain⟨b,a⟩:=weo.1 g;obtain⟨c,e,f,rfl⟩:=(jhi hm hi).1 b;have:=hm.nx i c U U e f;simp at a;exact⟨a,this.2⟩};.rw[weo,jhi hm hi];unfold dE;grind
def ztc{α:Type}{l:Wam α}{k:Nat}(h:k<l.length)(p:α->Bool):(l.take (k+1)).filter p=if p l[k]then(l.take k).filter p++[l[k]]else(l.take k).filter p:=by rw[wcp h,wfd];grind
def z47(d:jd)(j:DSz d)(hm:MOk d)(i:Nat)(hi:i<d.2.2.1.length):Tn (λn=>zga n d (i:Int)) (λr=>r=onL d i):=by have e:=yf hi;have g:=j.r _ (wcm hi);unfold onL;rw[e];unfold zga;refine Tt.at hi ?_;generalize d.2.2.1[i]=row at g;refine Tt.loop (λm s=>∃k,k<=row.length/\m=row.length-k/\s=(row,(row.length:Int),(k:Int),(row.take k).filter λx=>decide (0<=x))) row.length waa ⟨0,U,rfl,V⟩ ?_;rintro _ _ ⟨k,o,rfl,rfl⟩ p f;dsimp only;refine wad (λc=>?_) λc=>?_;{have b:k<row.length:=U;refine Tt.J (λs=>s=(row,(row.length:Int),(k:Int),(row.take (k+1)).filter λx=>decide (0<=x))) (λq a=>?_) λs l=>?_;{refine Tt.at b ?_;rw[ztc b]at a;refine wab (λh=>?_) λh=>?_;{rw[if_pos h]at a;refine wac _ (ye X U) (a _ rfl)};.rw[if_neg X]at a;exact a _ rfl};.subst l;refine Tt.b1 ?_;dsimp only;rw[wI U U];exact f (row.length-(k+1)) _ U ⟨k+1,U,rfl,rfl⟩};.have:k=row.length:=U;subst this;rw[wc7];exact Tt.pure rfl
def MkI(n:Nat)(a:W7)(k:Nat)(l:W8):Prop:=l.length=n/\∀i:Nat,onB l i↔(i:Int)∈a.take k
def MkI.zero{n:Nat}{a:W7}:MkI n a 0 (replicate n false):=⟨V,λi=>by simp[zmu]⟩
def MkI.next{n k:Nat}{a:W7}{l:W8}(h:MkI n a k l)(b:k<a.length)(h0:0<=a[k])(c:a[k]<n):MkI n a (k+1) (l.set (a[k]).toNat true):=⟨by simpa using h.1,λi=>by
 rw[jmw h0 (by rw[h.1];omega),h.2,za3 b,yf b];grind⟩
def MkI.sp{n c:Nat}{a:W7}{l:W8}{E:Nat->Nat->Prop}(h:MkI n a a.length l)(e:∀x∈a,0<=x/\x<n)(f:a.length+n<=c):SpI n E (λi=>(i:Int)∈a) c l a:=by have d:∀i,onB l i↔(i:Int)∈a:=λi=>by{rw[h.2,wc7]};refine⟨h.1,λx g=>?_,λi b=> .base ((d i).1 b),λi b=>(d i).2 b,λi j b _=> .inr ((d i).1 b),by have:=zxz l;rw[h.1]at this;omega⟩;grind
def off1{α:Type}{x:α}{l:Wam α}:zpn (x::l) 1=some 1:=by unfold zpn;grind
theorem zu3(d:jd)(H:DSz d){b:Bool}(hb:Tn (λnn=>Jm nn d) (· = b)):Tn (λnn=>V5 nn d) (λr=>b=false/\r=[]\/b=true/\MOk d/\r=Zj d.2.2.1.length (dE d) (λi=>i=0)):=by
 have hn:=H.n;obtain⟨b',R,hq⟩:=(zz7 d H).val;have hR:b=true->MOk d:=λh=>by
  obtain⟨c,⟨N,h1⟩,rfl⟩:=hb;obtain⟨c',⟨N',Q⟩,rfl⟩:=R;have e:=(h1 (max N N') (by omega)).symm.trans (Q (max N N') (by omega));have e:=wd5 e;exact(hq (e▸h)).m H
 unfold V5;refine Waj hb waa λr Y=>?_;subst Y;cases r with
 |false=>exact wah rfl (Tt.pure (.inl ⟨rfl,rfl⟩))
 |true=>
 have L:=hR rfl;have h0:=L.n0;refine wae rfl (wac _ (mkN (by omega) (by omega)) (wac _ (sm7 (by simp)) ?_));have A:∀x∈[(0:Int)],0<=x/\x<d.2.2.1.length:=λx hx=>by grind
 refine Tt.loop (λm s=>∃k l,k<=1/\m=1-k/\s=([0],([(0:Int)].length:Int),(k:Int),d,l,[0])/\MkI d.2.2.1.length [0] k l) 1 waa ⟨0,_,by omega,rfl,rfl,MkI.zero⟩ ?_;rintro _ _ ⟨k,l,hk,rfl,rfl,t⟩ nx T;dsimp only;refine wad (λc=>?_) λc=>?_
 ·have u:k<[(0:Int)].length:=by omega
  obtain⟨z0,z1⟩:=A _ (wcm u);refine Tt.at u ?_;have h2:=t.next u z0 z1
  generalize [(0:Int)][k]=z at h2 z0 z1;obtain⟨q,rfl⟩:=wdw z0;refine waj (by rw[t.1];omega) (wac _ (yw _ (by rw[t.1];omega)) (wai ?_));exact T (1-(k+1)) _ (by grind) ⟨k+1,_,by grind,rfl,rfl,by simpa using h2⟩
 ·have:k=[(0:Int)].length:=by grind
  subst this;have Z:=t.sp (E:=dE d) (c:=1+d.2.2.1.length) A (by simp);refine Tt.loop (λm s=>∃l w,s=(d,l,w)/\m=2*offs l+w.length/\SpI d.2.2.1.length (dE d) (λi=>(i:Int)∈[(0:Int)]) (1+d.2.2.1.length) l w) _ waa.fst ⟨l,[0],rfl,rfl,Z⟩ ?_;rintro _ _ ⟨l,w,rfl,rfl,hi⟩ b8 B;dsimp only;cases w with
  |nil=>
   refine wae rfl (Tt.pure (.inr ⟨rfl,L,?_⟩));rw[hi.done];simp
  |cons x w=>
   obtain⟨x0,x1,I⟩:=hi.pop (nx:=onL d x.toNat);obtain⟨q,rfl⟩:=wdw x0;simp only[wcz]at I;have F:q<d.2.2.1.length:=by omega
   obtain⟨f1,f2,f3⟩:=jcg d L q F;refine wah (wdh (by simp)) (wac (0:Int) (vn (by simp)) (wac ((q:Nat):Int) rfl (wac 1 off1 ?_)));refine Waj (z47 d H L q F) waa.fst.fst λr Y=>?_;subst Y;refine Tt.loop (λm s=>∃k v O,k<=(onL d q).length/\m=(onL d q).length-k/\s=(onL d q,((onL d q).length:Int),(k:Int),d,v,O)/\SpJ d.2.2.1.length (dE d) (λi=>(i:Int)∈[(0:Int)]) (1+d.2.2.1.length) (2*offs l+w.length) q (onL d q) k v O) _ waa.fst.fst ⟨0,l,w,by omega,rfl,rfl,I⟩ ?_;rintro _ _ ⟨k,v,O,b5,rfl,rfl,o⟩ b9 C;dsimp only;refine wad (λc2=>?_) λc2=>?_
   ·have a:k<(onL d q).length:=by omega
    obtain⟨G,y1⟩:=f2 _ (wcm a);have hE:=(f3 ((onL d q)[k]).toNat).1 (by rw[Int.toNat_of_nonneg G];exact wcm a);have j8:=o.j8;refine Tt.J (λs=>∃M P,s=(onL d q,((onL d q).length:Int),(k:Int),d,M,P)/\SpJ d.2.2.1.length (dE d) (λi=>(i:Int)∈[(0:Int)]) (1+d.2.2.1.length) (2*offs l+w.length) q (onL d q) (k+1) M P) (λny D=>?_) λs⟨M,P,hs,S⟩=>?_
    ·have g:=o.same a G;have f:=o.push a G y1 hE;refine Tt.at a ?_;generalize (onL d q)[k]=y at G y1 g f;obtain⟨j,rfl⟩:=wdw G;simp only[wcz]at g f;have p:j<v.length:=by rw[o.j1];omega
     refine waj p (Tt.at p ?_);cases hv:v[j]with
     |true=>exact wae rfl (D _ ⟨_,_,rfl,g (by unfold onB;grind)⟩)
     |false=>
      exact wah rfl (waj p (wac _ (yw _ p) (wac _ (ye (by grind) (by omega)) (D _ ⟨_,_,rfl,f (by grind)⟩))))
    ·subst hs;refine Tt.b1 ?_;dsimp only;rw[wI (by omega) (by omega)];exact C ((onL d q).length-(k+1)) _ (by omega) ⟨k+1,M,P,by omega,rfl,rfl,S⟩
   ·have:k=(onL d q).length:=by omega
    subst this;exact Tt.fst (B _ _ (by have:=o.j9;grind) ⟨v,O,rfl,rfl,o.out λj I=>(f3 j).2 I⟩)
structure BkI(d:jd)(k t:Nat)(back:List (List Int)):Prop where
 l:back.length=d.2.2.1.length
 r:∀(j:Nat)(x:List Int),back[j]?=some x->x.length<=256*k+t/\∀i:Int,i∈x↔∃q:Nat,i=q/\((q<k/\dE d q j)\/(q=k/\(j:Int)∈(onL d k).take t))
def BkI.zero{d:jd}:BkI d 0 0 (replicate d.2.2.1.length []):=⟨V,λj x h=>by
 grind⟩
def BkI.up{d:jd}{k:Nat}{back:W4}(h:BkI d k (onL d k).length back)(f:(onL d k).length<=256)(e:∀j:Nat,(j:Int)∈onL d k↔dE d k j):BkI d (k+1) 0 back:=⟨h.l,λj x a=>by
 obtain⟨b,c⟩:=h.r j x a;grind⟩
def BkI.add{d:jd}{k t:Nat}{back:W4}(h:BkI d k t back){j:Nat}(a:t<(onL d k).length)(f:(onL d k)[t]=(j:Int))(m:j<back.length):BkI d k (t+1) (back.set j (back[j]++[(k:Int)])):=⟨by simpa using h.l,λn x b=>by
 rw[wdf]at b;split at b;{rename_i e;subst e;cases b;obtain⟨g,c⟩:=h.r j _ (wch m);refine⟨X,λi=>?_⟩;rw[wcu,c,wcr];constructor;{rintro(⟨q,rfl,h|h⟩|rfl);{grind};{grind};.exact⟨k,rfl,.inr ⟨rfl,(za3 a _).2 (.inr (by rw[yf a,f]))⟩⟩};grind};.rename_i e;obtain⟨g,c⟩:=h.r n x b;refine⟨U,λi=>(c i).trans ?_⟩;constructor;{grind};.rintro⟨q,rfl,h|⟨rfl,h⟩⟩;{grind};.rcases(za3 a _).1 h with h|h;{grind};.rw[yf a,f]at h;omega⟩
def BgI(d:jd)(k:Nat)(a:W7):Prop:=a.length<=k/\∀i:Int,i∈a↔∃q:Nat,i=q/\q<k/\0<=Ju d q
def jjj{α:Type}{l:Wam (Wam α)}{j:Nat}(x:Wam α)(h:j<l.length):z0o (some ((j:Int).toNat)) l (j:Int) x=some (l.set j x):=by unfold z0o;simp[wew];exact yw x h
theorem jlq(d:jd)(hd:DSz d){b:Bool}(hb:Tn (λnn=>Jm nn d) (· = b)):Tn (λnn=>zcx nn d) (λr=>b=false/\r=[]\/b=true/\MOk d/\r=Zj d.2.2.1.length (λi j=>dE d j i) (λi=>i<d.2.2.1.length/\0<=Ju d i)):=by
 have hn:=hd.n;obtain⟨b',b9,hq⟩:=(zz7 d hd).val;have hR:b=true->MOk d:=λh=>by
  obtain⟨c,⟨N,O⟩,rfl⟩:=hb;obtain⟨c',⟨N',b8⟩,rfl⟩:=b9;have e:=(O (max N N') (by omega)).symm.trans (b8 (max N N') (by omega));have e:=wd5 e;exact(hq (e▸h)).m hd
 unfold zcx;refine Waj hb waa λr hr=>?_;subst hr;cases r with
 |false=>exact wah rfl (Tt.pure (.inl ⟨rfl,rfl⟩))
 |true=>
 have hm:=hR rfl;have h0:=hm.n0;have d6:=hm.lab;refine wae rfl (Tt.b1 (wac _ (mkN (by omega) (by omega)) ?_));refine Tt.loop (λm s=>∃(k:Nat)(f:List Int)(a:List (List Int)),k<=d.2.2.1.length/\m=d.2.2.1.length-k/\s=(d.2.2.2.1,(d.2.2.2.1.length:Int),(k:Int),d,f,a)/\BgI d k f/\BkI d k 0 a) d.2.2.1.length waa ⟨0,[],_,by omega,rfl,rfl,⟨by simp,λi=>by simp⟩,BkI.zero⟩ ?_;rintro _ _ ⟨k,f,a,hk,rfl,rfl,p,P⟩ nx c5;dsimp only;refine wab (λc=>?_) λc=>?_
 ·have c:=wcj c;have a1:k<d.2.2.1.length:=by omega
  have a0:k<d.2.2.2.1.length:=by omega
  obtain⟨f1,f2,f3⟩:=jcg d hm k a1;refine Tt.J (λs=>∃(B:List Int)(g:List (List Int)),s=(d.2.2.2.1,(d.2.2.2.1.length:Int),(k:Int),d,B,g)/\BgI d (k+1) B/\BkI d (k+1) 0 g) (λny I=>?_) λs⟨B,g,hs,D,R⟩=>?_
  ·refine Tt.at a0 (Waj (z47 d hd hm k a1) waa.fst λr hr=>?_);subst hr;refine Tt.loop (λm s=>∃(t:Nat)(g:List (List Int)),t<=(onL d k).length/\m=(onL d k).length-t/\s=((k:Int),d.2.2.2.1[k],d.2.2.2.1,(d.2.2.2.1.length:Int),(k:Int),onL d k,((onL d k).length:Int),(t:Int),d,f,g)/\BkI d k t g) _ waa.fst ⟨0,a,by omega,rfl,rfl,P⟩ ?_;rintro _ _ ⟨t,g,ht,rfl,rfl,D⟩ d1 H;dsimp only;refine wab (λG=>?_) λG=>?_
   ·have G:=wcj G;have u:t<(onL d k).length:=by omega
    obtain⟨S,y1⟩:=f2 _ (wcm u);refine Tt.at u ?_;obtain⟨j,Q⟩:=wdw S;rw[Q]at y1⊢;have o:j<g.length:=by rw[D.l];omega
    have c1:=(D.r j _ (wch o)).1;refine waj o (Tt.at o (wac (g[j]++[(k:Int)]) (by rw[atN o];exact ye (by simp;omega) (by omega)) (waj o (wac _ (jjj _ o) (wai ?_)))));exact H ((onL d k).length-(t+1)) _ (by omega) ⟨t+1,_,by omega,rfl,rfl,D.add u Q o⟩
   ·have G:=wck G;have:t=(onL d k).length:=by omega
    subst this;have a7:=D.up f1 f3;have hl:Ju d k=d.2.2.2.1[k]:=yf a0;refine wab (λY=>?_) λY=>?_
    ·have Y:=wcj Y;refine wac _ (ye (by have:=p.1;grind) (by omega)) (I.fst _ ⟨_,g,rfl,⟨by have:=p.1;grind,λi=>?_⟩,a7⟩);rw[wcu,p.2,wcr]
     grind
    ·have Y:=wck Y;refine I.fst _ ⟨f,g,rfl,⟨by have:=p.1;omega,λi=>(p.2 i).trans ?_⟩,a7⟩
     grind
  ·subst hs;refine Tt.b1 ?_;dsimp only;rw[wI (by omega) (by omega)];exact c5 (d.2.2.1.length-(k+1)) _ (by omega) ⟨k+1,B,g,by omega,rfl,rfl,D,R⟩
 ·have c:=wck c;have:k=d.2.2.1.length:=by omega
  subst this;have Z:∀x∈f,0<=x/\x<d.2.2.1.length:=λx hx=>by
   obtain⟨q,rfl,O,_⟩:=(p.2 x).1 hx;omega
  have a6:∀x(hx:x<a.length),(a[x]).length<=256*d.2.2.1.length/\(∀y∈a[x],0<=y/\y<d.2.2.1.length)/\∀j:Nat,(j:Int)∈a[x]↔dE d j x:=λx hx=>by
   obtain⟨O,M⟩:=P.r x _ (wch hx);refine⟨by omega,λy hy=>?_,λj=>(M j).trans ?_⟩
   ·grind
   ·constructor
    ·grind
    ·intro h;exact⟨j,rfl,.inl ⟨h.1,h⟩⟩
  refine wac _ (mkN (by omega) (by omega)) (wac _ (sm7 (by have:=p.1;omega)) ?_);refine Tt.loop (λm s=>∃k l,k<=f.length/\m=f.length-k/\s=(some a,(f.length:Int),(k:Int),f,l,f)/\MkI d.2.2.1.length f k l) _ waa.fst ⟨0,_,by omega,rfl,rfl,MkI.zero⟩ ?_;rintro _ _ ⟨k,l,R,rfl,rfl,L⟩ e2 a3;dsimp only;refine wab (λc0=>?_) λc0=>?_
  ·have c0:=wcj c0;have u:k<f.length:=by omega
   obtain⟨z0,z1⟩:=Z _ (wcm u);refine waj u (Tt.at u ?_);have M:=L.next u z0 z1
   generalize f[k]=z at M z0 z1;obtain⟨q,rfl⟩:=wdw z0;refine waj (by rw[L.1];omega) (wac _ (yw _ (by rw[L.1];omega)) (Tt.b1 ?_));have:=p.1;rw[wI (by omega) (by omega)];exact a3 (f.length-(k+1)) _ (by omega) ⟨k+1,_,by omega,rfl,rfl,by simpa using M⟩
  ·have c0:=wck c0;have:k=f.length:=by omega
   subst this;have c8:=L.sp (E:=λi j=>dE d j i) (c:=f.length+d.2.2.1.length) Z (by omega);have c1:=p.1;refine Tt.loop (λm s=>∃l w,s=(some a,f,l,w)/\m=2*offs l+w.length/\SpI d.2.2.1.length (λi j=>dE d j i) (λi=>(i:Int)∈f) (f.length+d.2.2.1.length) l w) _ waa.fst.fst ⟨l,f,rfl,rfl,c8⟩ ?_;rintro _ _ ⟨l,w,rfl,rfl,hi⟩ d1 H;dsimp only;cases w with
   |nil=>
    refine wae rfl (Tt.pure (.inr ⟨rfl,hm,?_⟩));rw[hi.done];congr 1;funext i;rw[p.2];refine propext ⟨λ⟨q,hq,O,M⟩=>?_,λ⟨O,M⟩=>⟨i,rfl,O,M⟩⟩;have:i=q:=by omega
    subst this;exact⟨O,M⟩
   |cons x w=>
    have c9:=(hi.h2 x (by simp)).1;have e1:=(hi.h2 x (by simp)).2.1;obtain⟨q,rfl⟩:=wdw c9;have a5:q<a.length:=by rw[P.l];omega
    obtain⟨f1,f2,f3⟩:=a6 q a5;obtain⟨_,_,Q⟩:=hi.pop;simp[wcz]at Q;refine wah (wdh (by simp)) (wac (0:Int) (vn (by simp)) (wac ((q:Nat):Int) rfl (wac 1 off1 (Tt.b1 (Tt.at a5 ?_)))));refine Tt.loop (λm s=>∃(k:Nat)(T:List Bool)(w2:List Int),k<=(a[q]).length/\m=(a[q]).length-k/\s=(some a,a[q],((a[q]).length:Int),(k:Int),f,T,w2)/\SpJ d.2.2.1.length (λi j=>dE d j i) (λi=>(i:Int)∈f) (f.length+d.2.2.1.length) (2*offs l+w.length) q a[q] k T w2) _ waa.fst.fst.fst ⟨0,l,w,by omega,rfl,rfl,Q⟩ ?_;rintro _ _ ⟨k,T,w2,R,rfl,rfl,F⟩ e3 a4;dsimp only;refine wab (λG=>?_) λG=>?_
    ·have G:=wcj G;have C:k<(a[q]).length:=by omega
     obtain⟨S,y1⟩:=f2 _ (wcm C);have hE:=(f3 ((a[q])[k]).toNat).1 (by rw[Int.toNat_of_nonneg S];simp);have j8:=F.j8;refine Tt.J (λs=>∃(l3:List Bool)(w3:List Int),s=(some a,a[q],((a[q]).length:Int),(k:Int),f,l3,w3)/\SpJ d.2.2.1.length (λi j=>dE d j i) (λi=>(i:Int)∈f) (f.length+d.2.2.1.length) (2*offs l+w.length) q a[q] (k+1) l3 w3) (λny I=>?_) λs⟨l3,w3,hs,c4⟩=>?_
     ·have A:=F.same C S;have v:=F.push C S y1 hE;refine Tt.at C ?_;generalize (a[q])[k]=y at S y1 A v;obtain⟨j,rfl⟩:=wdw S;simp[wcz]at A v;have o:j<T.length:=by rw[F.j1];omega
      refine waj o (Tt.at o ?_);cases hv:T[j]with
      |true=>exact wae rfl (I _ ⟨_,_,rfl,A (by unfold onB;grind)⟩)
      |false=>
       exact wah rfl (waj o (wac _ (yw _ o) (wac _ (ye (by simp;omega) (by omega)) (I _ ⟨_,_,rfl,v (by grind)⟩))))
     ·subst hs;refine Tt.b1 ?_;dsimp only;rw[wI (by omega) (by omega)];exact a4 ((a[q]).length-(k+1)) _ (by omega) ⟨k+1,l3,w3,by omega,rfl,rfl,c4⟩
    ·have G:=wck G;have:k=(a[q]).length:=by omega
     subst this;exact Tt.fst (H _ _ (by have:=F.j9;grind) ⟨T,w2,rfl,rfl,F.out λj Q=>(f3 j).2 Q⟩)
abbrev zD:jd:=(⟨replicate 256 0,wci⟩,0,[],[],())
def z5g(g:jb)(a:zad g)(y:jd×W4×Unit):Tn (λc=>Zy c (some (g,y))) (λd=>d=gFd g):=by unfold Zy;refine Tt.b1 (Waj (ji6 g a) waa λr b=>Tt.pure b)
open Classical in
def zk1(l:List jh):Bool:=if h:∃r,Tn (λa=>yp a l) (λx=>x=r)then h.choose else false
def jar(l:Wam jh)(b:l.length<=1000000):Tn (λa=>yp a l) (λx=>x=zk1 l):=by
 obtain⟨r,h,_⟩:=(z9t l b).val;have c:∃r,Tn (λa=>yp a l) (λx=>x=r):=⟨r,h⟩
 unfold zk1;grind
def fs2(a c:Int):W8->Nat->jc
 |[],_=>(0,0,0,())
 |b::l,i=>match b with
  |true=>fs2 a c l (i+1)
  |false=>(a,i,c,())
def jki{g:jb}(j:zad g)(h:GOk g)(y:jd×W4×Unit):Tn (λn=>Z7 n (some (g,y))) (λd=>d=fs2 10 0 (g.1.map λx=>!zk1 x.2.1) 0):=by have q:=h.t;unfold Z7;refine Tt.J (λd=>d=fs2 10 0 (g.1.map λx=>!zk1 x.2.1) 0) (λu b=>?_) (λs i=>Tt.pure i);refine Tt.b1 (Tt.loop (λm s=>∃k,k<=g.1.length/\m=g.1.length-k/\s=(10,0,(g.1.length:Int),(k:Int),some (g,y),(0,0,0,()))/\fs2 10 0 (g.1.map λx=>!zk1 x.2.1) 0=fs2 10 0 ((g.1.drop k).map λx=>!zk1 x.2.1) k) g.1.length waa ⟨0,U,Wab,rfl,rfl⟩ λm s⟨k,o,p,i,e⟩ v f=>?_);subst i;dsimp only;refine wad (λc=>?_) (λc=>b.fst _ ?_);{have a:k<g.1.length:=U;rw[wcy a,wda]at e;refine Tt.b1 (Tt.at a ?_);refine Waj (jar _ (j.tn _ (wcm a))) waa.fst λr l=>?_;subst l;refine wab (λcb=>b.fst _ ?_) λcb=>Tt.b1 ?_;{have cb:zk1 g.1[k].2.1=true:=X;rw[e,cb];rfl};.have cb:zk1 g.1[k].2.1=false:=X;rw[wI U U];exact f (g.1.length-(k+1)) _ U ⟨k+1,U,rfl,V,by rw[e,cb];rfl⟩};.have:k=g.1.length:=U;subst this;rw[e,wef];rfl
def jl8(l:W7)(x:Int)(h:l.length<=1000000):Tn (λf=>Jq f l x) (λr=>0<=r↔x∈l):=by unfold Jq;refine Tt.loop (λm s=>∃k,k<=l.length/\m=l.length-k/\s=(l,x,(l.length:Int),(k:Int))/\(x∈l↔x∈l.drop k)) l.length waa ⟨0,U,Wab,rfl,Iff.rfl⟩ λm s⟨k,g,i,e,d⟩ j b=>?_;subst e;dsimp only;refine wad (λc=>?_) (λc=>Tt.pure ?_);{have a:k<l.length:=U;rw[wcy a,wdb]at d;refine Tt.at a (wad (λcb=>Tt.pure ?_) λcb=>Tt.b1 ?_);{grind};.rw[wI U U];exact b (l.length-(k+1)) _ U ⟨k+1,U,rfl,rfl,d.trans (or_iff_right cb)⟩};grind
def z8x(l:W7)(x:Int)(a:l.length<=1000000):Tn (λb=>zi b l x) (λr=>r=decide (x∈l)):=by unfold zi;refine Waj (jl8 l x a) waa λr c=>Tt.pure ?_;grind
def jkl{g:jb}(x:g.1.length<=1000000)(d:jd)(t:W4){lt:W7}(v:lt.length<=1000000)(q:Tn (λn=>zz n d) (λr=>r=lt)):Tn (λn=>zr n (some (g,d,t,()))) (λd=>d=fs2 13 1 ((range g.1.length).map λ(i:Nat)=>decide ((i:Int)∈lt)) 0):=by
 unfold zr;refine Tt.b1 (Waj q waa λr w=>?_);subst w;obtain⟨L,o⟩:∃L,((range g.1.length).map λ(i:Nat)=>decide ((i:Int)∈r))=L:=⟨_,rfl⟩
 have p:L.length=g.1.length:=X;rw[o];refine Tt.J (λd=>d=fs2 13 1 L 0) (λA a=>Tt.b1 ?_) λs l=>Tt.pure l;refine Tt.loop (λm s=>∃k,k<=g.1.length/\m=g.1.length-k/\s=(13,1,(g.1.length:Int),(k:Int),r,(0,0,0,()))/\fs2 13 1 L 0=fs2 13 1 (L.drop k) k) g.1.length waa ⟨0,U,Wab,rfl,rfl⟩ λm s⟨k,y,z,l,e⟩ B j=>?_;subst l;dsimp only;refine wad (λc=>?_) (λc=>a.fst _ ?_);{have h:k<L.length:=U;have f:L[k]=decide ((k:Int)∈r):=X;rw[wcy h,f]at e;refine Waj (z8x r _ v) waa.fst λb u=>?_;subst u;refine wab (λcb=>a.fst _ ?_) λcb=>Tt.b1 ?_;{have cb:decide ((k:Int)∈r)=false:=X;rw[e,cb];rfl};.have cb:decide ((k:Int)∈r)=true:=X;rw[wI U U];exact j (g.1.length-(k+1)) _ U ⟨k+1,U,rfl,V,by rw[e,cb];rfl⟩};.have:k=L.length:=U;subst this;rw[e,wef];rfl
def z4x:∀{L:Wam jc},(jy L).1=0->jy L=zd
 |[],_=>rfl
 |d::l,h=>by unfold jy at h⊢;by_cases c:d.1=0;{rw[if_pos c]at h⊢;exact z4x h};grind
def jgb{a c:Int}(b:a≠0):∀{l:W8}{i:Nat},(fs2 a c l i).1=0->fs2 a c l i=zd
 |[],_,_=>rfl
 |true::l,i,h=>jgb b (i:=i+1) h
 |false::l,i,h=>absurd h b
def zq2(a:Nat)(e:Int)(lt:W7):jc:=if e=0 then fs2 13 1 ((range a).map λ(i:Nat)=>decide ((i:Int)∈lt)) 0 else(16,0,0,())
def zdz(l:W7)(x:Int)(i:l.length<=1000000):Tn (λf=>Vc f l x) (λr=>r=decide (x∈l)):=by unfold Vc;refine Tt.loop (λm s=>∃k,k<=l.length/\m=l.length-k/\s=(l,x,(k:Int))/\(x∈l↔x∈l.drop k)) l.length waa ⟨0,U,Wab,rfl,Iff.rfl⟩ λm s⟨k,g,j,e,d⟩ n b=>?_;subst e;dsimp only;refine wad (λc=>?_) (λc=>Tt.pure ?_);{have a:k<l.length:=U;rw[wcy a,wdb]at d;refine Tt.at a (wad (λcb=>Tt.pure ?_) λcb=>Tt.b1 ?_);{grind};.rw[wI U U];exact b (l.length-(k+1)) _ U ⟨k+1,U,rfl,rfl,d.trans (or_iff_right λh=>cb h.symm)⟩};grind
def jc2(a b:W7)(l:a.length<=1000000)(n:b.length<=1000000):Tn (λj=>zfu j a b) (λr=>r=decide (a=b)):=by unfold zfu;refine wad (λc=>Tt.pure ?_) λc=>?_;{exact(wc3 λh=>c (by rw[h])).symm};have p:a.length=b.length:=X;refine Tt.loop (λm s=>∃k,k<=a.length/\m=a.length-k/\s=(a,b,(k:Int))/\(a=b↔a.drop k=b.drop k)) a.length waa ⟨0,U,Wab,rfl,Iff.rfl⟩ λm s⟨k,o,q,i,g⟩ t f=>?_;subst i;dsimp only;refine wad (λc=>?_) (λc=>Tt.pure ?_);{have e:k<a.length:=U;have d:k<b.length:=U;rw[wcy e,wcy d,List.cons.injEq]at g;refine Tt.at e (Tt.at d (wad (λcb=>Tt.pure ?_) λcb=>Tt.b1 ?_));{grind};.have cb:a[k]=b[k]:=U;rw[wI U U];exact f (a.length-(k+1)) _ U ⟨k+1,U,rfl,rfl,g.trans (and_iff_right cb)⟩};grind
def ze7:W4->W7->Nat->Int
 |[],_,_ => -1
 |y::l,x,i=>if y=x then(i:Int)else ze7 l x (i+1)
def jda(l:W4)(x:W7)(p:l.length<=1000000)(i:x.length<=1000000)(j:∀y∈l,y.length<=1000000):Tn (λn=>zfp n l x) (λr=>r=ze7 l x 0):=by
 unfold zfp;refine Tt.loop (λm s=>∃k,k<=l.length/\m=l.length-k/\s=(l,x,(k:Int))/\ze7 l x 0=ze7 (l.drop k) x k) l.length waa ⟨0,U,Wab,rfl,rfl⟩ λm s⟨k,o,q,h,d⟩ t e=>?_;subst h;dsimp only;refine wad (λc=>?_) (λc=>Tt.pure ?_)
 .have a:k<l.length:=U;rw[wcy a]at d;have f:ze7 (l[k]::l.drop (k+1)) x k=if l[k]=x then(k:Int)else ze7 (l.drop (k+1)) x (k+1):=rfl
  rw[f]at d;refine Tt.at a (Waj (jc2 _ x (j _ (wcm a)) i) waa.fst λb g=>?_);subst g;refine wad (λcb=>Tt.pure ?_) λcb=>Tt.b1 ?_;{grind};.rw[if_neg cb]at d;rw[wI U U];exact e (l.length-(k+1)) _ U ⟨k+1,U,rfl,rfl,d⟩
 .have:k=l.length:=U;subst this;rw[d,wef];rfl
def z03{l:W7}:jx l↔∀i a b,l[i]?=some a->l[i+1]?=some b->a<b:=by unfold jx;induction l with|nil=>{simp}|cons x l e=>rw[wdj,e];constructor;{grind};.intro h;have d:∀i a b,l[i]?=some a->l[i+1]?=some b->a<b:=λi a b j k=>h (i+1) a b X X;refine⟨λy c=>?_,d⟩;have f:=e.2 d;cases l with|nil=>{grind}|cons z l=>have g:=h 0 x z rfl rfl;rcases wdb.1 c with rfl|c;{omega};.have:=(wdj.1 f).1 y c;omega
def z7r(l:W7)(u:l.length<=1000000):Tn (λq=>zec q l) (λr=>r=true↔jx l):=by unfold zec;refine Tt.loop (λm s=>∃k,m=l.length-k/\s=(l,((k+1:Nat):Int))/\∀i a b,i<k->l[i]?=some a->l[i+1]?=some b->a<b) l.length waa ⟨0,Wab,rfl,λi a b h=>U⟩ λm s⟨k,v,p,o⟩ w j=>?_;subst p;dsimp only;refine wad (λc=>?_) (λc=>Tt.pure ?_);{have f:k+1<l.length:=U;have d:k<l.length:=U;have e:T.w64 (((k+1:Nat):Int)-1)=(k:Int):=by{rw[wI U U];omega};rw[e];refine Tt.at d (Tt.at f (wad (λcb=>Tt.pure ?_) λcb=>Tt.b1 ?_));{refine⟨λh=>X,λh=>?_⟩;have:=z03.1 h k _ _ (wch d) (wch f);omega};.rw[wI U U];refine j (l.length-(k+1)) _ U ⟨k+1,rfl,V,λi a b t n g=>?_⟩;grind};.refine⟨λ_=>z03.2 λi a b n g=>?_,λ_=>rfl⟩;have:=(wcl.1 g).1;exact o i a b U n g
def zzm(s:Wb)(b:Nat):Int:=(s.l.getD (b / 64) 0).fdiv (2 ^ (min ((b % 64:Nat):Int).toNat 64))
def zk8(s:Wb)(b:Nat):Bool:=decide (¬(z2s .u64 (zzm s b) 1=0))
def hsB(n:jl)(b:Nat)(i:Int):Bool:=match n.1[i.toNat]? with
 |some s=>zk8 s b
 |none=>false
def at4E(s:Wb){k:Nat}(a:k<4):atL s.l (k:Int)=some (s.l.getD k 0):=by have:k<s.l.length:=by{rw[s.2];omega};rw[atN this];grind
def shrE(s:Wb)(b:Nat):zvl .u64 (s.l.getD (b / 64) 0) ((b % 64:Nat):Int)=some (zzm s b):=by rfl
def z3z(n:jl)(A:n.1.length<=1000)(l:W7)(p:RN n.1.length l)(b:Nat)(t:b<256):Tn (λy=>zel y n l (b:Int)) (λr=>r=l.filter (hsB n b)):=by
 have u:=p.len;unfold zel zh6;refine Tt.loop (λm s=>∃(k:Nat)(out:W7),k<=l.length/\m=l.length-k/\s=((b:Int),l,(l.length:Int),(k:Int),n,out)/\out=(l.take k).filter (hsB n b)) l.length waa ⟨0,_,U,U,rfl,V⟩ λm s⟨k,out,B,f,j,q⟩ C h=>?_;subst j;dsimp only;refine wab (λc=>?_) (λc=>?_)
 .have c:=wcj c;have d:k<l.length:=U;have v:out.length<=k:=by{grind};have x:=wcp d;refine Tt.J (λs=>∃a,s=((b:Int),l,(l.length:Int),(k:Int),n,a)/\a=(l.take (k+1)).filter (hsB n b)) (λD e=>?_) λs⟨a,j,i⟩=>?_
  .have w:=p.b _ (wcm d);refine Tt.at d (wac _ (jnm t) ?_);obtain⟨z,hz⟩:∃z:Nat,l[k]=(z:Int):=⟨(l[k]).toNat,U⟩
   rw[hz]at w x⊢;have o:z<n.1.length:=U;refine Tt.at o ?_;have f:hsB n b (z:Int)=zk8 n.1[z] b:=by{unfold hsB;grind};refine wac _ (at4E n.1[z] U) (wac _ (jig b) (wac _ (shrE _ _) ?_));refine wab (λc=>?_) λc=>e _ ⟨_,rfl,?_⟩;{refine wac _ (ye X U) (e _ ⟨_,rfl,?_⟩);have g:=f.trans c;grind};.have g:=f.trans c;grind
  .subst j;refine Tt.b1 ?_;dsimp only;rw[wI U U];exact h (l.length-(k+1)) _ U ⟨k+1,_,U,rfl,rfl,i⟩
 .have c:=wck c;have:k=l.length:=U;subst this;rw[wc7]at q;exact Tt.pure q
def ze0(s:Wb):Prop:=∀k:Nat,0<=s.l.getD k 0/\s.l.getD k 0<18446744073709551616
def and1(m:Nat):z2s .u64 (m:Int) 1=((m % 2:Nat):Int):=by unfold z2s;have a:(BitVec.ofInt IntKind.u64.bits (m:Int) &&& BitVec.ofInt IntKind.u64.bits 1).toNat=m % 2:=by{show(BitVec.ofInt 64 (m:Int) &&& BitVec.ofInt 64 1).toNat=m % 2;simp};rw[a,zey U U]
def jlo{s:Wb}(a:ze0 s)(b:Nat):∃m:Nat,zzm s b=(m:Int):=by
 unfold zzm;have h:=(a (b / 64)).1;obtain⟨w,c⟩:∃w:Nat,s.l.getD (b / 64) 0=(w:Int):=⟨(s.l.getD (b / 64) 0).toNat,U⟩
 rw[c];refine⟨w / 2 ^ (min ((b % 64:Nat):Int).toNat 64),?_⟩;grind
def zo0(s:Wb)(c:ze0 s)(b:Nat)(g:b<256):Tn (λe=>Zo e s (b:Int)) (λr=>r=zk8 s b):=by obtain⟨m,a⟩:=jlo c b;have q:zv6 .i64 (b:Int) 64=some ((b / 64:Nat):Int):=by{unfold zv6;rw[if_neg V,show((b:Int)).tdiv 64=((b / 64:Nat):Int)from(Int.ofNat_tdiv b 64).symm,zbv U U]};have r:=jig b;have f:z3e .u64 (m:Int) 2=some ((m % 2:Nat):Int):=by{rfl};have d:jq 4 ((b / 64:Nat):Int)=some ((b / 64:Nat):Int):=by{unfold jq;grind};unfold Zo;rw[show wr .i64 (b:Int)=(b:Int)from zbv U U,show wr .u64 (b:Int)=(b:Int)from zey U U];refine wac _ q (wac _ d (wac _ (at4E s U) (wac _ r (wac _ (shrE s b) ?_))));rw[a];refine wac _ f (Tt.pure ?_);unfold zk8;rw[a,and1];grind
def zyx(n:jl)(H:n.1.length<=1000)(D:∀s∈n.1,ze0 s)(l e:W7)(o:e.length<=1000000)(A:RN n.1.length l)(B:∀x,x∈l↔x∈e/\0<=x/\x<n.1.length)(b:Nat)(w:b<256):Tn (λF=>zf3 F n e (b:Int)) (λr=>r=l.filter (hsB n b)):=by unfold zf3 zju;refine Tt.loop (λm s=>∃k out,k<=n.1.length/\m=n.1.length-k/\s=(e,(b:Int),(k:Int),n,out)/\out.length<=k/\jx out/\∀x,x∈out↔x∈e/\0<=x/\x<(k:Int)/\hsB n b x=true) n.1.length waa ⟨0,_,U,Wab,rfl,V,List.Pairwise.nil,λx=>⟨λh=>X,λh=>U⟩⟩ λm s⟨k,out,L,M,d,u,j,v⟩ N t=>?_;subst d;dsimp only;refine wad (λc=>?_) (λc=>?_);{have f:k<n.1.length:=U;have p:hsB n b (k:Int)=zk8 n.1[k] b:=by{unfold hsB;rw[wcz,wch f]};refine Tt.J (λs=>∃out,s=(e,(b:Int),(k:Int),n,out)/\out.length<=k+1/\jx out/\∀x,x∈out↔x∈e/\0<=x/\x<((k+1:Nat):Int)/\hsB n b x=true) (λO g=>?_) λs⟨out,d,u,j,v⟩=>?_;{refine Tt.J (λs=>s=(e,(b:Int),(k:Int),decide ((k:Int)∈e/\hsB n b (k:Int)=true),n,out)) (λP i=>?_) λs d=>?_;{refine Waj (zdz e (k:Int) o) waa.fst λh z=>?_;subst z;refine wad (λc=>?_) λc=>i _ ?_;{refine Tt.at f (Waj (zo0 n.1[k] (D _ (wcm f)) b w) waa.fst λq C=>i _ ?_);subst C;rw[<- p];simp[c]};grind};.subst d;dsimp only;refine wad (λc=>?_) λc=>g _ ⟨out,rfl,U,j,λx=>?_⟩;{refine wac _ (ye X U) (g _ ⟨_,rfl,X,?_,λx=>?_⟩);{unfold jx;rw[wel];exact⟨j,V,λa I G y=>X⟩};grind};grind};.subst d;refine Tt.b1 ?_;dsimp only;rw[wI U U];exact t (n.1.length-(k+1)) _ U ⟨k+1,out,U,rfl,rfl,u,j,v⟩};.have:k=n.1.length:=U;subst this;refine Tt.pure (z7h j (A.r.filter _) λx=>?_);grind
def jmh(l:W7)(t:l.length<=1000000):Tn (λq=>zfr q l) (λb=>b=true↔jx l):=by unfold zfr;have n:T.w64 ((l.length:Int)-1)=(l.length:Int)-1:=wI U U;rw[n];refine Tt.loop (λm s=>∃k:Nat,k<=l.length/\m=l.length-k/\s=(l,(l.length:Int)-1,(k:Int))/\∀(i:Nat)(h:i+1<l.length),i<k->l[i]<l[i+1]) l.length waa ⟨0,U,U,rfl,λi g o=>U⟩ λm s⟨k,r,u,p,j⟩ v e=>?_;subst p;dsimp only;refine wab (λc=>?_) (λc=>Tt.pure ⟨λ_=>ris_of λi h=>j i h (by have:=wck c;omega),λ_=>rfl⟩);have c:=wcj c;have a:k+1<l.length:=U;have f:T.w64 ((k:Int)+1)=((k+1:Nat):Int):=wI U U;refine wac _ (atN U) ?_;rw[f];refine wac _ (atN a) (wab (λd=>Tt.pure ⟨λh=>(by cases h),λh=>?_⟩) λd=>Tt.b1 ?_);{have d:=wcj d;have:=we3.1 h k (k+1) U a U;omega};rw[f];refine e (l.length-(k+1)) _ U ⟨k+1,U,rfl,rfl,λi g o=>?_⟩;by_cases h:i<k;{exact j i g h};.have:i=k:=U;subst this;have:=wck d;omega
def z4f(N:Nat)(ls:W4)(v:ls.length<=1000000)(q:∀x∈ls,x.length<=1000000):Tn (λu=>zc1 u (N:Int) ls) (λb=>b=true↔∀x∈ls,RN N x):=by
 unfold zc1;refine Tt.loop (λm s=>∃k,k<=ls.length/\m=ls.length-k/\s=((N:Int),ls,(ls.length:Int),(k:Int))/\∀x∈ls.take k,RN N x) ls.length waa ⟨0,U,U,rfl,V⟩ λm s⟨k,z,A,i,y⟩ B g=>?_;subst i;dsimp only;refine wad (λc=>?_) (λc=>Tt.pure ⟨λ_=>?_,λ_=>rfl⟩);rotate_left
 {grind};have d:k<ls.length:=U;have l:=wcm d;have j:=q _ l;refine Tt.at d (Tt.J (λs=>∃b,s=((N:Int),ls,(ls.length:Int),(k:Int),b)/\(b=false↔RN N ls[k])) (λC a=>?_) λs⟨b,i,w⟩=>?_);{refine Waj (jmh _ j) waa.fst λr e=>Tt.b1 (wab (λc=>a _ ⟨_,rfl,λh=>X,λh=>?_⟩) λc=>Tt.b1 ?_);{have c:r=false:=X;have:=e.2 h.r;grind};have e:=e.1 X;refine wab (λn=>?_) λn=>a _ ⟨_,rfl,λh=>jw0 e λf=>X,λ_=>rfl⟩;have f:0<(ls[k]).length:=X;refine wac _ (atN f) (Tt.b1 (wad (λo=>a _ ⟨_,rfl,λh=>X,λh=>?_⟩) λo=>?_));{have:=h.b _ (wcm f);omega};have p:T.w64 (((ls[k]).length:Int)-1)=(((ls[k]).length-1:Nat):Int):=by{rw[wI U U];omega};rw[p];refine Tt.at U (a _ ⟨_,rfl,λh=>jw0 e λf=>⟨U,?_⟩,λh=>wc3 ?_⟩);{grind};.have:=h.b _ (wcm (show(ls[k]).length-1<(ls[k]).length by omega));omega};.subst i;dsimp only;refine wab (λc=>Tt.pure ⟨λh=>X,λh=>?_⟩) λc=>Tt.b1 ?_;{grind};rw[wI U U];refine g (ls.length-(k+1)) _ U ⟨k+1,U,rfl,rfl,λx t=>?_⟩;rw[wcp d]at t;grind
def zui(n:jl)(v:n.1.length<=1000000)(l:W7)(p:l.length<=1000000):Tn (λu=>zba u n l) (λb=>b=true↔RN n.1.length l):=by unfold zba;refine Tt.loop (λm s=>∃k,k<=l.length/\m=l.length-k/\s=(l,(k:Int),n)/\∀x∈l.take k,0<=x/\x<(n.1.length:Int)) l.length waa ⟨0,U,U,rfl,V⟩ λm s⟨k,w,y,g,j⟩ z f=>?_;subst g;dsimp only;refine wad (λc=>?_) (λc=>?_);{have a:k<l.length:=U;have i:=wcm a;refine Tt.J (λs=>∃b,s=(l,(k:Int),b,n)/\(b=false↔0<=l[k]/\l[k]<(n.1.length:Int))) (λA d=>?_) λs⟨b,g,o⟩=>?_;{refine Tt.at a (Tt.b1 (wab (λc=>d _ ⟨_,rfl,?_⟩) λc=>Tt.at a (d _ ⟨_,rfl,?_⟩)));{grind};grind};.subst g;dsimp only;refine wab (λc=>Tt.pure ⟨λh=>X,λh=>?_⟩) λc=>Tt.b1 ?_;{have:=o.2 (h.b _ i);grind};rw[wI U U];refine f (l.length-(k+1)) _ U ⟨k+1,U,rfl,rfl,λx t=>?_⟩;rw[wcp a]at t;grind};.have e:k=l.length:=X;rw[e,wc7]at j;exact Waj (z7r l p) waa.fst λr q=>Tt.pure (q.trans ⟨λh=>⟨h,j⟩,λh=>h.r⟩)
structure z7p(n:jl):Prop extends NetOk n where
 p:∀o∈n.2.1,0<=o
def zm5(n:jl){N:Nat}(D:N<=1000)(hz:zkv N 60000 n):Tn (λB=>Yi B n) (λb=>b=true↔z7p n):=by
 have L:=hz.s;have M:=hz.o;have O:=hz.l;have P:=hz.f;have Q:=hz.fi;unfold Yi;refine Tt.b1 (Tt.J (λs=>∃b,s=((n.1.length:Int),b,n)/\(b=false↔n.2.1.length=n.1.length/\n.2.2.1.length=n.1.length/\n.2.2.2.1.length=n.1.length)) (λC a=>?_) λs⟨b,j,t⟩=>?_);{refine Tt.b1 (wab (λc=>a _ ⟨_,rfl,λh=>(by cases h),λh=>?_⟩) λc=>wab (λw=>a _ ⟨_,rfl,λh=>(by cases h),λh=>?_⟩) λw=>a _ ⟨_,rfl,?_⟩);{grind};{grind};grind}
 .subst j;dsimp only;refine wab (λc=>Tt.pure ⟨λh=>(by cases h),λh=>?_⟩) λc=>?_;{have:=t.2 ⟨h.o,h.l,h.f⟩;rw[c]at this;cases this};obtain⟨y,z,A⟩:=t.1 c;refine Tt.loop (λm s=>∃k,k<=n.2.1.length/\m=n.2.1.length-k/\s=((n.1.length:Int),n.2.1,(n.2.1.length:Int),(k:Int),n)/\∀o∈n.2.1.take k,0<=o) n.2.1.length waa ⟨0,U,Wab,rfl,V⟩ λm s⟨k,F,G,j,u⟩ C a=>?_;subst j;dsimp only;refine wad (λc=>?_) (λc=>?_);{have d:k<n.2.1.length:=U;refine Tt.at d (wad (λc=>Tt.pure ⟨λh=>X,λh=>?_⟩) λc=>Tt.b1 ?_);{have:=h.p _ (wcm d);omega};rw[wI U U];refine a (n.2.1.length-(k+1)) _ U ⟨k+1,U,rfl,rfl,λx e=>?_⟩;rw[wcp d]at e;grind}
  .have q:k=n.2.1.length:=X;rw[q,wc7]at u;refine Tt.J (λb=>b=true↔z7p n) (λH g=>?_) λs j=>Tt.pure j;refine Waj (z4f n.1.length [n.2.2.2.2.1] V (λx e=>X)) waa.fst λr v=>(wab (λc=>?_) λc=>g _ ⟨λh=>X,λh=>?_⟩)
   {refine Waj (z4f n.1.length n.2.2.2.1 U (λx e=>by have:=hz.fr x e;omega)) waa.fst λI i=>?_;exact g _ ⟨λh=>⟨⟨y,z,A,v.1 c _ V,i.1 h⟩,u⟩,λh=>i.2 h.fo⟩};.have:=v.2 λx e=>by{rw[wcr.1 e];exact h.fi};grind
def zcu(n:jl){N:Nat}(L:N<=1000)(hz:zkv N 60000 n):Tn (λG=>Vo G n) (λb=>b=true↔z7p n):=by have Q:=hz.s;have R:=hz.o;have S:=hz.l;have T:=hz.f;have Y:=hz.fi;unfold Vo;refine Tt.J (λs=>∃b,s=(b,n)/\(b=false↔n.2.1.length=n.1.length/\n.2.2.1.length=n.1.length/\n.2.2.2.1.length=n.1.length/\RN n.1.length n.2.2.2.2.1)) (λH a=>?_) λs⟨b,j,g⟩=>?_;{refine Tt.b1 (wad (λc=>a _ ⟨_,rfl,λh=>(by cases h),λh=>?_⟩) λc=>wab (λq=>a _ ⟨_,rfl,λh=>(by cases h),λh=>?_⟩) λq=>wad (λw=>a _ ⟨_,rfl,λh=>(by cases h),λh=>?_⟩) λw=>?_);{grind};{grind};{grind};.have q:=wck q;refine Waj (zui n U _ U) waa λr F=>a _ ⟨_,rfl,?_⟩;grind};.subst j;dsimp only;refine wab (λc=>Tt.pure ⟨λh=>X,λh=>?_⟩) λc=>?_;{have:=g.2 ⟨h.o,h.l,h.f,h.fi⟩;grind};obtain⟨y,z,A,B⟩:=g.1 c;refine Tt.loop (λm s=>∃k,k<=n.1.length/\m=n.1.length-k/\s=((k:Int),n)/\(∀o∈n.2.1.take k,0<=o)/\∀x∈n.2.2.2.1.take k,RN n.1.length x) n.1.length waa ⟨0,U,U,rfl,V,V⟩ λm s⟨k,M,O,j,u,v⟩ H a=>?_;subst j;dsimp only;refine wad (λc=>?_) (λc=>?_);{have D:k<n.1.length:=U;have e:k<n.2.1.length:=U;have d:k<n.2.2.2.1.length:=U;refine Tt.J (λs=>∃b,s=((k:Int),b,n)/\(b=false↔0<=n.2.1[k]/\RN n.1.length n.2.2.2.1[k])) (λP i=>?_) λs⟨b,j,g⟩=>?_;{refine Tt.at e (Tt.b1 (wad (λc=>i _ ⟨_,rfl,λh=>X,λh=>?_⟩) λc=>?_));{grind};.refine Tt.at d (Waj (zui n U _ (by have:=hz.fr _ (wcm d);omega)) waa.fst λr F=>i _ ⟨_,rfl,?_⟩);grind};.subst j;dsimp only;refine wab (λc=>Tt.pure ⟨λh=>X,λh=>?_⟩) λc=>Tt.b1 ?_;{have:=g.2 ⟨h.p _ (wcm e),h.fo _ (wcm d)⟩;grind};obtain⟨b1,I⟩:=g.1 c;rw[wI U U];refine a (n.1.length-(k+1)) _ U ⟨k+1,U,rfl,rfl,λx t=>?_,λx t=>?_⟩;{rw[wcp e]at t;grind};.rw[wcp d]at t;grind};.have C:k=n.1.length:=X;rw[show k=n.2.1.length by omega,wc7]at u;rw[show k=n.2.2.2.1.length by omega,wc7]at v;exact Tt.pure ⟨λ_=>⟨⟨y,z,A,B,v⟩,u⟩,λ_=>rfl⟩
open Classical in
def zfd(n:jl)(b:Nat):W7:=if z7p n then n.2.2.2.2.1.filter (hsB n b)else []
def jqa(n:jl){N:Nat}(d:N<=1000)(hz:zkv N 60000 n)(b:Nat)(e:b<256):Tn (λf=>zci f n (b:Int)) (λr=>r=zfd n b):=by
 have g:=hz.s;unfold zci;refine Waj (zm5 n d hz) waa λr a=>(wab (λc=>Tt.pure ?_) λc=>?_)
 {have c:r=false:=X;unfold zfd;grind};.have h:=a.1 X;refine Waj (z3z n U _ h.fi b e) waa λr a=>Tt.pure ?_;unfold zfd;grind
def jbc(n:jl){N:Nat}(e:N<=1000)(hz:zkv N 60000 n)(g:∀s∈n.1,ze0 s)(b:Nat)(f:b<256):Tn (λi=>zbc i n (b:Int)) (λr=>r=zfd n b):=by
 have j:=hz.s;have k:=hz.fi;unfold zbc;refine Waj (zcu n e hz) waa λr d=>(wab (λc=>Tt.pure ?_) λc=>?_)
 {have c:r=false:=X;unfold zfd;grind};.have h:=d.1 X;refine Waj (zyx n U g _ _ U h.fi (λx=>⟨λa=>⟨a,h.fi.b x a⟩,λa=>a.1⟩) b f) waa λr d=>Tt.pure ?_;unfold zfd;grind
open Classical in
def jb7(N:Nat)(p:Int->Prop):W7:=((range N).map λ(i:Nat)=>(i:Int)).filter λx=>decide (p x)
def zje{N:Nat}{p:Int->Prop}{x:Int}:x∈jb7 N p↔0<=x/\x<(N:Int)/\p x:=by unfold jb7;simp only[weo,wc6,wc9];constructor;{grind};.rintro⟨b,c,a⟩;exact⟨⟨x.toNat,wed.2 U,U⟩,a⟩
def zy8{N:Nat}{p:Int->Prop}:jx (jb7 N p):=by unfold jb7 jx;refine List.Pairwise.filter _ ?_;rw[List.pairwise_map];exact List.pairwise_lt_range.imp λh=>U
def zze(n:jl)(l:W7)(x:Int):Prop:=∃i∈l,0<=i/\i<(n.1.length:Int)/\x∈n.2.2.2.1.getD i.toNat []
open Classical in
def zk3(n:jl)(l:W7)(b:Nat):W7:=if z7p n then(jb7 n.1.length (zze n l)).filter (hsB n b)else []
def zm3{n:jl}{l:W7}{k:Nat}(a:k<l.length){x:Int}:zze n (l.take (k+1)) x↔zze n (l.take k) x\/(0<=l[k]/\l[k]<(n.1.length:Int)/\x∈n.2.2.2.1.getD l[k].toNat []):=by unfold zze;rw[wcp a];grind
def on_ex(n:jl){N:Nat}(Q:N<=1000)(hz:zkv N 60000 n)(q:NetOk n)(l:W7)(S:l.length<=1000000)(b:Nat)(I:b<256):Tn (λP=>zug P n l (b:Int)) (λr=>r=(jb7 n.1.length (zze n l)).filter (hsB n b)):=by
 have z1:=hz.s;have z4:=hz.f;have z5:=q.f;unfold zug zss;refine Tt.loop (λm s=>∃(k:Nat)(j:W7),k<=l.length/\m=l.length-k/\s=((b:Int),j,l,(l.length:Int),(k:Int),n)/\RN n.1.length j/\∀x,x∈j↔zze n (l.take k) x) l.length waa ⟨0,_,U,Wab,rfl,RN.nil _,λx=>⟨λh=>X,λ⟨i,L,_⟩=>(by cases L)⟩⟩ λm s⟨k,j,R,T,t,g,w⟩ Y F=>?_;subst t;dsimp only;refine wad (λc=>?_) (λc=>Waj (z3z n U _ g b I) waa.fst λr M=>Tt.pure ?_);rotate_left
 {have D:k=l.length:=X;rw[D,wc7]at w;have e:=z7h g.r zy8 λx=>by{rw[zje];exact⟨λh=>⟨(g.b x h).1,(g.b x h).2,(w x).1 h⟩,λh=>(w x).2 h.2.2⟩};rw[M,e]};have d:k<l.length:=U;refine Tt.J (λs=>∃a,s=((b:Int),a,l,(l.length:Int),(k:Int),n)/\RN n.1.length a/\∀x,x∈a↔zze n (l.take (k+1)) x) (λZ o=>?_) λs⟨a,t,A,G⟩=>?_
 .refine Tt.at d (Tt.J (λs=>∃y,s=((b:Int),j,l[k],l,(l.length:Int),(k:Int),y,n)/\(y=true↔0<=l[k]/\l[k]<(n.2.2.2.1.length:Int))) (λnz p=>?_) λs⟨y,t,B⟩=>?_);{refine Tt.b1 (wad (λc=>p _ ⟨_,rfl,λh=>⟨c,wcj h⟩,λh=>wdh h.2⟩) λc=>p _ ⟨_,rfl,λh=>X,λh=>absurd h.1 c⟩)}
  .subst t;dsimp only;refine wab (λc=>?_) λc=>o _ ⟨_,rfl,g,λx=>?_⟩
   .obtain⟨h0,H⟩:=B.1 c;obtain⟨z,hz⟩:∃z:Nat,l[k]=(z:Int):=⟨(l[k]).toNat,U⟩
    have C:=λx=>zm3 (n:=n) d (x:=x);rw[hz]at H C⊢;have v:z<n.2.2.2.1.length:=U;refine Tt.at v (Waj (zpa U g (q.fo _ (wcm v))) waa.fst λu O=>?_);refine o _ ⟨_,rfl,O.1,λx=>?_⟩;grind
   .rw[w,zm3 d];grind
 .subst t;refine Tt.b1 ?_;dsimp only;rw[wI U U];exact F (l.length-(k+1)) _ U ⟨k+1,_,U,rfl,rfl,A,G⟩
def jwj(n:jl){N:Nat}(a:N<=1000)(hz:zkv N 60000 n)(l:W7)(f:l.length<=1000000)(b:Nat)(e:b<256):Tn (λg=>ze3 g n l (b:Int)) (λr=>r=zk3 n l b):=by
 unfold ze3;refine Waj (zm5 n a hz) waa λr d=>(wab (λc=>Tt.pure ?_) λc=>?_)
 {have c:r=false:=X;unfold zk3;grind};.have h:=d.1 X;refine Waj (on_ex n a hz h.toNetOk l f b e) waa λr d=>Tt.pure ?_;unfold zk3;grind
def jej(n:jl){N:Nat}(I:N<=1000)(hz:zkv N 60000 n)(P:∀s∈n.1,ze0 s)(l:W7)(T:l.length<=1000)(b:Nat)(L:b<256):Tn (λQ=>zca Q n l (b:Int)) (λr=>r=zk3 n l b):=by
 have z1:=hz.s;have z4:=hz.f;unfold zca;refine Waj (zcu n I hz) waa λr q=>(wab (λc=>Tt.pure ?_) λc=>?_)
 {have c:r=false:=by{simpa using c};unfold zk3;rw[if_neg λh=>by rw[q.2 h]at c;cases c]};have G:=q.1 (by simpa using c);have z5:=G.f;refine Tt.loop (λm s=>∃(k:Nat)(g:W7),k<=l.length/\m=l.length-k/\s=(l,(b:Int),(k:Int),n,g)/\g.length<=512*k/\∀x,x∈g↔zze n (l.take k) x) l.length waa ⟨0,_,U,U,rfl,V,λx=>⟨λh=>(by cases h),λ⟨i,M,_⟩=>(by cases M)⟩⟩ λm s⟨k,g,S,Y,d,R,C⟩ Z B=>?_;subst d;dsimp only;refine wad (λc=>?_) (λc=>?_);rotate_left
 .have A:k=l.length:=X;rw[A,wc7]at C;have u:RN n.1.length (jb7 n.1.length (zze n l)):=⟨zy8,λx h=>⟨(zje.1 h).1,(zje.1 h).2.1⟩⟩
  refine Waj (zyx n U P _ g U u (λx=>?_) b L) waa.fst λr q=>Tt.pure ?_;{rw[zje,C];exact⟨λh=>⟨h.2.2,h.1,h.2.1⟩,λh=>⟨h.2.1,h.2.2,h.1⟩⟩};.unfold zk3;rw[if_pos G,q]
 have a:k<l.length:=U;refine Tt.J (λs=>∃e,s=(l,(b:Int),(k:Int),n,e)/\e.length<=512*(k+1)/\∀x,x∈e↔zze n (l.take (k+1)) x) (λny j=>?_) λs⟨e,d,v,D⟩=>?_
 .refine Tt.J (λs=>∃t,s=(l,(b:Int),(k:Int),t,n,g)/\(t=true↔0<=l[k]/\l[k]<(n.1.length:Int))) (λnz o=>?_) λs⟨t,d,w⟩=>?_;{refine Tt.at a (Tt.b1 (wad (λc=>Tt.at a (o _ ⟨_,rfl,λh=>⟨c,wcj h⟩,λh=>wdh h.2⟩)) λc=>o _ ⟨_,rfl,λh=>X,λh=>absurd h.1 c⟩))}
  .subst d;dsimp only;refine wab (λc=>?_) λc=>j _ ⟨_,rfl,U,λx=>?_⟩
   .obtain⟨h0,H⟩:=w.1 c;refine Tt.at a ?_;obtain⟨z,F⟩:∃z:Nat,l[k]=(z:Int):=⟨(l[k]).toNat,U⟩
    have y:=λx=>zm3 (n:=n) a (x:=x);rw[F]at H y⊢;have p:z<n.2.2.2.1.length:=U;have O:=hz.fr _ (wcm p);refine Tt.at p (wac _ (ye U U) (j _ ⟨_,rfl,X,λx=>?_⟩));grind
   .rw[C,zm3 a];grind
 .subst d;refine Tt.b1 ?_;dsimp only;rw[wI U U];exact B (l.length-(k+1)) _ U ⟨k+1,_,U,rfl,rfl,v,D⟩
def zg8(n:jl)(t i:Int):Int:=if 0<=i/\i<(n.1.length:Int)/\n.2.2.1.getD i.toNat false=true then(if t<0 then n.2.1.getD i.toNat 0 else min t (n.2.1.getD i.toNat 0))else t
open Classical in
def zod(n:jl)(l:W7):Int:=if z7p n then l.foldl (zg8 n) (-1)else -1
def z31{n:jl}{l:W7}{k:Nat}(a:k<l.length):(l.take (k+1)).foldl (zg8 n) (-1)=zg8 n ((l.take k).foldl (zg8 n) (-1)) l[k]:=by rw[wcp a,web];rfl
theorem jrm(n:jl){N:Nat}(hN:N<=1000)(hz:zkv N 60000 n)(l:List Int)(hl:l.length<=1000000):Tn (λnn=>zfw nn n l) (λr=>r=zod n l):=by
 unfold zfw;refine Tt.bind (Tt.call (zm5 n hN hz) waa) λr hr=>(wab (λc=>Tt.pure ?_) λc=>?_)
 ·have c:r=false:=by simpa using c
  unfold zod;rw[if_neg λh=>by rw[hr.2 h]at c;cases c]
 have hok:=hr.1 (by grind);have e1:=hok.o;have e2:=hok.l;unfold zod;rw[if_pos hok];refine Tt.loop (λm s=>∃k t,k<=l.length/\m=l.length-k/\s=(t,l,(l.length:Int),(k:Int),n)/\t=(l.take k).foldl (zg8 n) (-1)) l.length waa ⟨0,_,by omega,by rfl,rfl,rfl⟩ λm s⟨k,t,hk,hm,hs,ht⟩ nx hnx=>?_;subst hs;dsimp only;refine wad (λc=>?_) (λc=>Tt.pure ?_)
 rotate_left
 ·grind
 have hlt:k<l.length:=by omega
 have hstep:=z31 (n:=n) hlt;rw[<- ht]at hstep;refine Tt.J (λs=>s=(zg8 n t l[k],l,(l.length:Int),(k:Int),n)) (λny hny=>?_) λs hs=>?_
 ·refine Tt.at hlt (Tt.J (λs=>∃bb,s=(t,l[k],l,(l.length:Int),(k:Int),bb,n)/\(bb=false↔0<=l[k]/\l[k]<(n.1.length:Int)/\n.2.2.1.getD l[k].toNat false=true)) (λnz hnz=>?_) λs⟨bb,hs,hbb⟩=>?_)
  ·refine Tt.b1 (wad (λc=>hnz _ ⟨_,rfl,λh=>(by grind),λh=>?_⟩) λc=>wad (λc2=>hnz _ ⟨_,rfl,λh=>(by grind),λh=>?_⟩) λc2=>?_)
   ·grind
   ·grind
   have hr:0<=l[k]/\l[k]<(n.1.length:Int):=by omega
   obtain⟨z,hz⟩:∃z:Nat,l[k]=(z:Int):=⟨(l[k]).toNat,by omega⟩
   have hzl:z<n.2.2.1.length:=by omega
   have ha:atL n.2.2.1 l[k]=some (n.2.2.1[z]'hzl):=by rw[hz];exact atN hzl
   have hg:n.2.2.1.getD l[k].toNat false=n.2.2.1[z]:=by grind
   refine wac _ ha (hnz _ ⟨_,rfl,?_⟩)
   grind
  ·subst hs;dsimp only;refine wab (λc=>hny _ ?_) λc=>?_
   ·have:¬(0<=l[k]/\l[k]<(n.1.length:Int)/\n.2.2.1.getD l[k].toNat false=true):=λh=>by
     grind
    unfold zg8
    grind
   have hr:=hbb.1 c;obtain⟨z,hz⟩:∃z:Nat,l[k]=(z:Int):=⟨(l[k]).toNat,by omega⟩
   have hzl:z<n.2.1.length:=by omega
   have ha:atL n.2.1 l[k]=some (n.2.1[z]'hzl):=by rw[hz];exact atN hzl
   have hg:n.2.1.getD l[k].toNat 0=n.2.1[z]:=by grind
   have hF:zg8 n t l[k]=if t<0 then n.2.1[z]else min t n.2.1[z]:=by unfold zg8;grind
   refine Tt.J (λs=>s=(if t<0 then n.2.1[z]else t,l[k],l,(l.length:Int),(k:Int),n)) (λnz hnz=>?_) λs hs=>?_
   ·refine wab (λc=>wac _ ha (hnz _ ?_)) λc=>hnz _ ?_
    ·grind
    grind
   ·subst hs;refine wac _ ha (Tt.b1 (hny _ ?_))
    grind
 ·subst hs;refine Tt.b1 ?_;dsimp only;rw[wI (by omega) (by omega)];exact hnx (l.length-(k+1)) _ (by omega) ⟨k+1,_,by omega,rfl,rfl,hstep.symm⟩
theorem z91(n:jl){N:Nat}(hN:N<=1000)(hz:zkv N 60000 n)(l:List Int)(hl:l.length<=1000000):Tn (λnn=>zeh nn n l) (λr=>r=zod n l):=by
 unfold zeh;refine Tt.bind (Tt.call (zcu n hN hz) waa) λr hr=>(wab (λc=>Tt.pure ?_) λc=>?_)
 ·have c:r=false:=by simpa using c
  unfold zod;rw[if_neg λh=>by rw[hr.2 h]at c;cases c]
 have hok:=hr.1 (by simpa using c);have e1:=hok.o;have e2:=hok.l;unfold zod;rw[if_pos hok];refine Tt.loop (λm s=>∃k t,k<=l.length/\m=l.length-k/\s=(l,t,(k:Int),n)/\t=(l.take k).foldl (zg8 n) (-1)) l.length waa ⟨0,_,by omega,by rfl,rfl,rfl⟩ λm s⟨k,t,hk,hm,hs,ht⟩ nx hnx=>?_;subst hs;dsimp only;refine wad (λc=>?_) (λc=>Tt.pure ?_)
 rotate_left
 ·grind
 have hlt:k<l.length:=by omega
 have hstep:=z31 (n:=n) hlt;rw[<- ht]at hstep;refine Tt.J (λs=>s=(l,zg8 n t l[k],(k:Int),n)) (λny hny=>?_) λs hs=>?_
 ·refine Tt.J (λs=>∃bb,s=(l,t,(k:Int),bb,n)/\(bb=true->0<=l[k]/\l[k]<(n.1.length:Int)/\zg8 n t l[k]=n.2.1.getD l[k].toNat 0)/\(bb=false->zg8 n t l[k]=t)) (λnz hnz=>?_) λs⟨bb,hs,hbt,hbf⟩=>?_
  ·have hno:¬(0<=l[k]/\l[k]<(n.1.length:Int)/\n.2.2.1.getD l[k].toNat false=true)->zg8 n t l[k]=t:=λh=>by unfold zg8;grind
   refine Tt.at hlt (Tt.b1 (wad (λc=>?_) λc=>hnz _ ⟨_,rfl,λh=>(by grind),λ_=>hno λh=>absurd h.1 c⟩));refine Tt.at hlt (wad (λc2=>?_) λc2=>hnz _ ⟨_,rfl,λh=>(by grind),λ_=>hno λh=>absurd h.2.1 c2⟩);obtain⟨z,hz⟩:∃z:Nat,l[k]=(z:Int):=⟨(l[k]).toNat,by omega⟩
   have hzl:z<n.2.2.1.length:=by omega
   have hzo:z<n.2.1.length:=by omega
   have ha:atL n.2.2.1 l[k]=some (n.2.2.1[z]'hzl):=by rw[hz];exact atN hzl
   have hao:atL n.2.1 l[k]=some (n.2.1[z]'hzo):=by rw[hz];exact atN hzo
   have hg:n.2.2.1.getD l[k].toNat false=n.2.2.1[z]:=by rw[hz];simp[List.getD,hzl]
   have hgo:n.2.1.getD l[k].toNat 0=n.2.1[z]:=by rw[hz];simp[List.getD,hzo]
   refine Tt.at hlt (wac _ ha (wab (λc3=>?_) λc3=>hnz _ ⟨_,rfl,λh=>(by grind),λ_=>hno λh=>?_⟩))
   ·have hF:zg8 n t l[k]=if t<0 then n.2.1[z]else min t n.2.1[z]:=by unfold zg8;grind
    refine Tt.b1 (wad (λc4=>hnz _ ⟨_,rfl,λ_=>⟨c,c2,by grind⟩,λh=>by grind⟩) λc4=>?_);rw[if_neg c4]at hF;refine Tt.at hlt (wac _ hao (hnz _ ⟨_,rfl,λh=>⟨c,c2,?_⟩,λh=>?_⟩))
    ·grind
    grind
   grind
  ·subst hs;dsimp only;refine wab (λc=>?_) λc=>hny _ (by grind);obtain⟨h1,h2,h3⟩:=hbt c;obtain⟨z,hz⟩:∃z:Nat,l[k]=(z:Int):=⟨(l[k]).toNat,by omega⟩
   have hzo:z<n.2.1.length:=by omega
   have hao:atL n.2.1 l[k]=some (n.2.1[z]'hzo):=by rw[hz];exact atN hzo
   have hgo:n.2.1.getD l[k].toNat 0=n.2.1[z]:=by grind
   exact Tt.at hlt (wac _ hao (hny _ (by grind)))
 ·subst hs;refine Tt.b1 ?_;dsimp only;rw[wI (by omega) (by omega)];exact hnx (l.length-(k+1)) _ (by omega) ⟨k+1,_,by omega,rfl,rfl,hstep.symm⟩
def qw(E:Nat->Nat->Bool):Nat->List Nat
 |0=>[]
 |k+1=>if(qw E k).any (E · k)then qw E k else qw E k++[k]
def cls(E:Nat->Nat->Bool)(b:Nat):Nat:=(qw E 256).findIdx (E · b)
structure Eqv(E:Nat->Nat->Bool):Prop where
 r:∀a,E a a=true
 s:∀a b,E a b=E b a
 t:∀a b c,E a b=true->E a c=E b c
def zih{E:Nat->Nat->Bool}(h:Eqv E):∀{k b:Nat},b<k->∃a∈qw E k,E a b=true
 |0,b,d=>U
 |k+1,b,d=>by unfold qw;by_cases c:b<k;{obtain⟨a,e,f⟩:=zih h c;grind};.have:b=k:=U;subst this;split;{grind};.exact⟨b,V,h.r b⟩
def z0x{E:Nat->Nat->Bool}(k:Nat):∀d,∃t,qw E (k+d)=qw E k++t
 |0=>⟨[],V⟩
 |d+1=>by
  obtain⟨t,a⟩:=z0x (E:=E) k d;have e:qw E (k+(d+1))=if(qw E (k+d)).any (E · (k+d))then qw E (k+d)else qw E (k+d)++[k+d]:=rfl
  grind
def jni{E:Nat->Nat->Bool}(h:Eqv E){k b:Nat}(d:b<k)(g:k<=256):(qw E k).findIdx (E · b)=cls E b:=by obtain⟨t,c⟩:=z0x k (256-k);rw[show k+(256-k)=256 by omega]at c;unfold cls;rw[c,List.findIdx_append,if_pos];obtain⟨a,e,f⟩:=zih h d;grind
def jhd{E:Nat->Nat->Bool}(h:Eqv E){a b:Nat}(c:E a b=true):cls E a=cls E b:=by unfold cls;have:(λx=>E x a)=λx=>E x b:=funext λx=>by{rw[h.s x a,h.s x b];exact h.t a b x c};grind
def jvx{E:Nat->Nat->Bool}(h:Eqv E){b:Nat}(f:b<256)(i:∀a,a<b->E a b=false):cls E b=(qw E b).length/\(qw E (b+1)).length=(qw E b).length+1:=by have g:∀k a,a∈qw E k->a<k:=by{intro k;induction k with|zero=>{intro a c;cases c}|succ k j=>intro a c;unfold qw at c;grind};have d:(qw E b).any (E · b)=false:=by{grind};have e:qw E (b+1)=qw E b++[b]:=by{show(if(qw E b).any (E · b)then qw E b else qw E b++[b])=_;grind};refine⟨?_,X⟩;rw[<- jni h (weu b) U,e,List.findIdx_append];have:(qw E b).findIdx (E · b)=(qw E b).length:=List.findIdx_eq_length.2 λa c=>X;rw[this,if_neg U];simp[h.r b]
def jol{E:Nat->Nat->Bool}(h:Eqv E){a b:Nat}(c:a<b)(e:E a b=true):qw E (b+1)=qw E b:=by obtain⟨x,f,d⟩:=zih h c;have:E x b=true:=by{rw[<- h.t x a b d]at e;omega};show(if(qw E b).any (E · b)then qw E b else qw E b++[b])=_;grind
def Zn(l:W6)(a b:Nat):Bool:=decide (l.map (zk8 · a)=l.map (zk8 · b))
def ziw(l:W6):Eqv (Zn l) where
 r a:=by simp[Zn]
 s a b:=decide_eq_decide.2 ⟨Eq.symm,Eq.symm⟩
 t a b c h:=by
  have h:=wcj h;unfold Zn;rw[h]
def jdo(l:W6)(A:l.length<=1000000)(p:∀s∈l,ze0 s)(a b:Nat)(n:a<256)(o:b<256):Tn (λu=>zau u l (a:Int) (b:Int)) (λr=>r=Zn l a b):=by unfold zau;refine Tt.loop (λm s=>∃k,k<=l.length/\m=l.length-k/\s=(l,(a:Int),(b:Int),(k:Int))/\Zn l a b=Zn (l.drop k) a b) l.length waa ⟨0,U,Wab,rfl,rfl⟩ λm s⟨k,z,B,i,f⟩ C h=>?_;subst i;dsimp only;refine wad (λc=>?_) (λc=>Tt.pure ?_);{have d:k<l.length:=U;have e:=p _ (wcm d);have v:wr .u8 (a:Int)=(a:Int):=Qy U U;have w:wr .u8 (b:Int)=(b:Int):=Qy U U;rw[v,w];rw[wcy d]at f;refine Tt.at d (Waj (zo0 _ e a n) waa.fst λx q=>Tt.at d (Waj (zo0 _ e b o) waa.fst λy t=>?_));subst q t;have j:Zn (l[k]::l.drop (k+1)) a b=((zk8 l[k] a == zk8 l[k] b) && Zn (l.drop (k+1)) a b):=by{unfold Zn;grind};rw[j]at f;refine wab (λc=>Tt.pure ?_) λc=>Tt.b1 ?_;{grind};.have c:(zk8 l[k] a == zk8 l[k] b)=true:=X;rw[wI U U];exact h (l.length-(k+1)) _ U ⟨k+1,U,rfl,rfl,X⟩};.have g:k=l.length:=X;rw[f,g,wef];rfl
def zeb(E:Nat->Nat->Bool):∀k,(qw E k).length<=k
 |0=>by simp[qw]
 |k+1=>by have h:=zeb E k;unfold qw;grind
structure ClsAt(E:Nat->Nat->Bool)(a:Arr 256 Int)(k:Nat):Prop where
 c:∀b,b<k->a.l[b]?=some (cls E b:Int)
def ClsAt.set{E:Nat->Nat->Bool}{a d:Wa}{k:Nat}(h:ClsAt E a k)(i:k<256){x:Int}(f:d.l=a.l.set k x)(m:x=(cls E k:Int)):ClsAt E d (k+1):=⟨λb g=>by
 have j:=a.h;rw[f,wdf];by_cases e:k=b;{grind};.rw[if_neg e];exact h.c b U⟩
def jry(l:W6)(I:l.length<=1000000)(P:∀s∈l,ze0 s):Tn (λC=>zjo C l) (λr=>r.2.1=((qw (Zn l) 256).length:Int)/\ClsAt (Zn l) r.1 256):=by
 obtain⟨E,u⟩:∃E,Zn l=E:=⟨_,rfl⟩
 have p:=u▸ziw l;have v:∀a b:Nat,a<256->b<256->Tn (λC=>zau C l (a:Int) (b:Int)) (λr=>r=E a b):=λa b D F=>u▸jdo l I P a b D F;rw[u];unfold zjo;refine Tt.loop (λm s=>∃k j,k<=256/\m=256-k/\s=(l,((qw E k).length:Int),(k:Int),⟨replicate 256 0,wci⟩,j)/\ClsAt E j k) 256 waa ⟨0,_,U,Wab,rfl,⟨λb F=>U⟩⟩ λm s⟨k,j,T,Y,i,w⟩ Z z=>?_;subst i;dsimp only;refine wad (λc=>?_) (λc=>Tt.pure ?_);rotate_left
 {grind};have d:k<256:=U;have M:=j.h;have O:=zeb E k;refine Tt.J (λs=>∃f,s=(l,((qw E (k+1)).length:Int),(k:Int),⟨replicate 256 0,wci⟩,f)/\ClsAt E f (k+1)) (λny o=>?_) λs⟨f,i,y⟩=>?_;{refine Tt.loop (λm s=>∃a,a<=k/\m=k-a/\s=(l,((qw E k).length:Int),(k:Int),(a:Int),⟨replicate 256 0,wci⟩,j)/\∀x,x<a->E x k=false) k waa.fst ⟨0,U,Wab,rfl,λx G=>U⟩ λm s⟨a,D,L,i,G⟩ nz A=>?_;subst i;dsimp only;refine Waj (v a k U d) waa.fst.fst λr N=>?_;subst N;refine wab (λn=>Tt.b1 ?_) λn=>?_;{have n:E a k=false:=X;have g:a<k:=by{by_cases e:a=k;{rw[e,p.r]at n;grind};omega};rw[wI U U];refine A (k-(a+1)) _ U ⟨a+1,U,rfl,rfl,λx R=>?_⟩;grind};.have n:E a k=true:=X;refine wab (λH=>?_) λH=>?_;{have g:a<k:=X;have Q:atL j.l (a:Int)=some (cls E a:Int):=by{have S:=w.c a g;assumption};obtain⟨f,q,t⟩:=zxq j d (cls E a:Int);refine waj U (wac _ Q (waj d (wac _ q (o.fst _ ⟨f,?_,w.set d t (by rw[jhd p n])⟩))));rw[jol p g n]};.have g:a=k:=X;subst g;obtain⟨n1,n2⟩:=jvx p d G;have B:wr .u8 ((qw E a).length:Int)=((qw E a).length:Int):=Qy U U;obtain⟨f,q,t⟩:=zxq j d ((qw E a).length:Int);rw[B];refine waj d (wac _ q (Tt.b1 (o.fst _ ⟨f,?_,w.set d t U⟩)));rw[wI U U,n2];rfl};.subst i;refine Tt.b1 ?_;dsimp only;rw[wI U U];exact z (256-(k+1)) _ U ⟨k+1,f,U,rfl,rfl,y⟩
def nandP(m r:Nat):m &&& 2 ^ r=if m.testBit r=true then 2 ^ r else 0:=by apply Nat.eq_of_testBit_eq;grind
def andP(m r:Nat)(hm:m<18446744073709551616)(d:r<64):z2s .u64 (m:Int) ((2 ^ r:Nat):Int)=((if m.testBit r=true then 2 ^ r else 0:Nat):Int):=by have b:2 ^ r<18446744073709551616:=wfc (Nat.pow_lt_pow_right V d) V;have a:(BitVec.ofInt IntKind.u64.bits (m:Int) &&& BitVec.ofInt IntKind.u64.bits ((2 ^ r:Nat):Int)).toNat=if m.testBit r=true then 2 ^ r else 0:=by{show(BitVec.ofInt 64 (m:Int) &&& BitVec.ofInt 64 ((2 ^ r:Nat):Int)).toNat=_;rw[BitVec.ofInt_natCast,BitVec.ofInt_natCast,BitVec.toNat_and,BitVec.toNat_ofNat,BitVec.toNat_ofNat,Nat.mod_eq_of_lt hm,Nat.mod_eq_of_lt b,nandP]};have c:(if m.testBit r=true then 2 ^ r else 0)<18446744073709551616:=by{grind};unfold z2s;rw[a];generalize (if m.testBit r=true then 2 ^ r else 0)=q at c;exact zey U U
theorem juy(s:Arr 4 Int)(d:ze0 s)(b:Nat)(h:b<256):Tn (λi=>zds i s (b:Int)) (λr=>r=zk8 s b):=by
 unfold zds;obtain⟨w,f⟩:∃w:Nat,s.l.getD (b / 64) 0=(w:Int):=⟨(s.l.getD (b / 64) 0).toNat,by have:=(d (b / 64)).1;omega⟩
 have a:w<18446744073709551616:=by have:=(d (b / 64)).2;omega
 have c:b % 64<64:=Nat.mod_lt _ (by simp);have g:2 ^ (b % 64)<18446744073709551616:=wfc (Nat.pow_lt_pow_right (by simp) c) (by simp);have j:jav .u64 1 ((b % 64:Nat):Int)=some ((2 ^ (b % 64):Nat):Int):=by
  unfold jav;rw[if_neg (by omega),wcz,show min (b % 64) IntKind.u64.bits=b % 64 from Nat.min_eq_left (by show b % 64<=64;omega)];rw[Int.one_mul,show((2:Int) ^ (b % 64))=((2 ^ (b % 64):Nat):Int) by simp];generalize 2 ^ (b % 64)=q at g;rw[zey (by omega) (by omega)]
 refine wac _ (jnm h) (waj (by omega) (wac _ (at4E s (by omega)) (wac _ (jig b) (wac _ j (Tt.pure ?_)))));rw[f,andP w _ a c];unfold zk8 zzm;rw[f,wcz,show min (b % 64) 64=b % 64 from Nat.min_eq_left (by omega)];have e:((w:Int)).fdiv (2 ^ (b % 64))=((w / 2 ^ (b % 64):Nat):Int):=by
  grind
 rw[e,and1]
 grind
def zz5{E:Nat->Nat->Bool}(h:Eqv E){k:Nat}(d:k<256):((qw E k).any (E · k)=true->qw E (k+1)=qw E k/\cls E k=(qw E k).findIdx (E · k))/\((qw E k).any (E · k)=false->qw E (k+1)=qw E k++[k]/\cls E k=(qw E k).length):=by
 have e:qw E (k+1)=if(qw E k).any (E · k)then qw E k else qw E k++[k]:=rfl
 have c:=jni h (weu k) (by omega:k+1<=256);constructor;{grind};.intro b;rw[if_neg X]at e;rw[e,List.findIdx_append]at c;have:(qw E k).findIdx (E · k)=(qw E k).length:=List.findIdx_eq_length.2 λa f=>X;rw[this,if_neg U]at c;simp[h.r k]at c;grind
def jvu{E:Nat->Nat->Bool}(h:Eqv E){a b:Nat}(j:a<256)(k:b<256)(e:cls E a=cls E b):E a b=true:=by have c:(qw E 256).findIdx (E · a)<(qw E 256).length:=by{obtain⟨x,g,i⟩:=zih h j;grind};have d:(qw E 256).findIdx (E · b)<(qw E 256).length:=by{obtain⟨x,g,i⟩:=zih h k;grind};have f:=List.findIdx_getElem (w:=c);have l:=List.findIdx_getElem (w:=d);unfold cls at e;simp[e]at f;rw[h.t _ a b f]at l;omega
def zo9(key:Nat->yc):List Nat->Nat->List (yc×Int×Unit)
 |[],_=>[]
 |r::L,i=>(key r,(i:Int),())::zo9 key L (i+1)
theorem jbm(key:Nat->yc)(k:Nat):∀L i,zo9 key (L++[k]) i=zo9 key L i++[(key k,((i+L.length:Nat):Int),())]
 |[],i=>by simp[zo9]
 |r::L,i=>by
  rw[weq];show(key r,(i:Int),())::zo9 key (L++[k]) (i+1)=_;rw[jbm key k L (i+1),wd4,show i+1+L.length=i+(L.length+1) by omega];rfl
def jc7(key:Nat->yc):∀L i,(zo9 key L i).length=L.length
 |[],_=>rfl
 |r::L,i=>by show(zo9 key L (i+1)).length+1=L.length+1;rw[jc7 key L (i+1)]
def jap{key:Nat->yc}{P:Nat->Bool}{k:Nat}:∀{L:Wam Nat}{i:Nat},(∀r∈L,Vm (key k) (key r)=P r)->zl Vm (zo9 key L i) (key k)=if L.any P then some ((i+L.findIdx P:Nat):Int)else none
 |[],i,_=>rfl
 |r::L,i,h=>by have a:=h r V;have b:=jap (L:=L) (i:=i+1) λx c=>h x X;show zl Vm ((key r,(i:Int),())::zo9 key L (i+1)) (key k)=_;unfold zl;grind
def zwr(E:Nat->Nat->Bool)(s:Wb)(a b:Nat):Bool:=E a b && (zk8 s a == zk8 s b)
def jm3{E:Nat->Nat->Bool}(h:Eqv E)(s:Wb):Eqv (zwr E s) where
 r a:=by simp[zwr,h.r]
 s a b:=by unfold zwr;rw[h.s a b,Bool.beq_comm]
 t a b c he:=by
  unfold zwr at he⊢;rw[wco,beq_iff_eq]at he;rw[h.t a b c he.1,he.2]
def zmc(E:Nat->Nat->Bool)(s:Wb)(b:Nat):yc:=((cls E b:Int),zk8 s b,())
def kq_iff{x y:yc}:Vm x y=true↔x=y:=by obtain⟨a,b,c⟩:=x;obtain⟨d,e,f⟩:=y;simp[Vm,zzj]
def jvp{E:Nat->Nat->Bool}(h:Eqv E){s:Wb}{k r:Nat}(c:k<256)(d:r<256):Vm (zmc E s k) (zmc E s r)=zwr E s r k:=by rw[Bool.eq_iff_iff,kq_iff];unfold zwr zmc;rw[wco,beq_iff_eq];constructor;{intro e;have b:=congrArg (·.1) e;have a:=congrArg (·.2.1) e;exact⟨jvu h d c U,a.symm⟩};.rintro⟨b,a⟩;rw[jhd h b,a]
def zxw{E:Nat->Nat->Bool}:∀{k a:Nat},a∈qw E k->a<k
 |0,a,b=>by cases b
 |k+1,a,b=>by unfold qw at b;split at b;{have:=zxw b;omega};.rcases wcu.1 b with c|c;{have:=zxw c;omega};grind
def jcp{E:Nat->Nat->Bool}(h:Eqv E)(a:Wa)(Q:ClsAt E a 256)(s:Wb)(Y:ze0 s):Tn (λnn=>Ye nn a s) (λr=>ClsAt (zwr E s) r 256):=by
 obtain⟨F,z⟩:∃F,zwr E s=F:=⟨_,rfl⟩
 have S:=z▸jm3 h s;have C:∀k r,k<256->r<256->Vm (zmc E s k) (zmc E s r)=F r k:=λk r M x=>z▸jvp h M x;rw[z];unfold Ye;refine Tt.loop (λj t=>∃k e,k<=256/\j=256-k/\t=((k:Int),e,s,⟨replicate 256 0,wci⟩,zo9 (zmc E s) (qw F k) 0)/\ClsAt F e k/\∀b,k<=b->b<256->e.l[b]?=some (cls E b:Int)) 256 waa ⟨0,a,U,Wab,rfl,⟨λb A=>U⟩,λb _ A=>Q.c b A⟩ λj t⟨k,e,M,hj,H,R,x⟩ nx D=>?_;subst H;dsimp only;refine wad (λc=>?_) (λc=>Tt.pure ?_);rotate_left
 {grind};have d:k<256:=U;have O:=e.h;have q:k<e.l.length:=U;have L:wr .u8 (k:Int)=(k:Int):=Qy U U;have Z:e.l[k]=(cls E k:Int):=by{have:=x k (wcs _) d;rw[wch q]at this;exact wd5 this};refine waj d (Tt.at q ?_);rw[L,Z];refine Waj (juy s Y k d) waa.fst λr G=>?_;subst G;obtain⟨m,u⟩:∃m,zo9 (zmc E s) (qw F k) 0=m:=⟨_,rfl⟩
 have v:m.length=(qw F k).length:=by{rw[<- u,jc7]};have T:=zeb F k;have o:zl Vm m (zmc E s k)=if(qw F k).any (F · k)then some ((0+(qw F k).findIdx (F · k):Nat):Int)else none:=by{rw[<- u];exact jap λr x=>C k r d (by have:=zxw x;omega)};obtain⟨s1,s2⟩:=zz5 S d;rw[u];refine Tt.J (λt=>t=((k:Int),(k:Int),e,s,⟨replicate 256 0,wci⟩,zo9 (zmc E s) (qw F (k+1)) 0,zmc E s k)/\zl Vm (zo9 (zmc E s) (qw F (k+1)) 0) (zmc E s k)=some (cls F k:Int)) (λny w=>?_) λt⟨H,B⟩=>?_;{refine Tt.b1 ?_;show Tt _ (λi=>ifB (!(zl Vm m (zmc E s k)).isSome) _ _) _;cases y:(qw F k).any (F · k)with|true=>{obtain⟨g,n⟩:=s1 y;rw[y,if_pos rfl,wd1,<- n]at o;rw[o];refine wae rfl (w _ ⟨?_,?_⟩);{rw[g,u];rfl};grind}|false=>obtain⟨g,n⟩:=s2 y;rw[y,if_neg V]at o;have f:Yq Vm m (zmc E s k) (wr .u8 (m.length:Int))=zo9 (zmc E s) (qw F (k+1)) 0:=by{have I:wr .u8 (m.length:Int)=(m.length:Int):=Qy U U;rw[I,zj2 o,g,jbm,u,wd1,v]};have p:zl Vm (zo9 (zmc E s) (qw F (k+1)) 0) (zmc E s k)=some (cls F k:Int):=by{have I:wr .u8 (m.length:Int)=(m.length:Int):=Qy U U;rw[<- f,zm0 (jhw _),I,v,n]};rw[o];refine wah rfl (Tt.b1 (Tt.b1 (w _ ⟨?_,p⟩)));rw[<- f];rfl};.subst H;dsimp only;rw[B];obtain⟨N,g,n⟩:=zxq e d (cls F k:Int);refine Tt.b1 (waj d (wac _ g (wai ?_)));refine D (256-(k+1)) _ U ⟨k+1,N,U,rfl,rfl,R.set d n rfl,λb A P=>?_⟩;grind
def z1d{E:Nat->Nat->Bool}(h:Eqv E):∀{k:Nat},k<=256->∀{j r:Nat},(qw E k)[j]?=some r->cls E r=j
 |0,_,j,r,a=>by trivial
 |k+1,i,j,r,a=>by obtain⟨e,f⟩:=zz5 h (show k<256 by omega);cases b:(qw E k).any (E · k)with|true=>{rw[(e b).1]at a;exact z1d h U a}|false=>obtain⟨c,g⟩:=f b;rw[c]at a;by_cases d:j<(qw E k).length;{rw[wcx d]at a;exact z1d h U a};grind
def jpz{E:Nat->Nat->Bool}(h:Eqv E){b:Nat}(d:b<256):cls E b<(qw E 256).length:=by obtain⟨x,a,c⟩:=zih h d;exact List.findIdx_lt_length_of_exists ⟨x,a,c⟩
def zqs{E:Nat->Nat->Bool}(h:Eqv E){a:Wa}(e:ClsAt E a 256):ClsN a (qw E 256).length:=by have i:=a.h;refine⟨by have:=jpz h (show 0<256 by omega);omega,zeb E 256,λb x g=>?_,λj f=>?_⟩;{have d:b<256:=X;rw[e.c b d]at g;exact⟨cls E b,jpz h d,(wd5 g).symm⟩};.have k:=wch f;refine⟨(qw E 256)[j],?_⟩;rw[e.c _ (zxw (wcm f)),z1d h (wcs _) k]
def jts(b:Nat):cls (Zn []) b=0:=by have h:qw (Zn []) 256=0::(qw (Zn []) 256).tail:=by{obtain⟨t,c⟩:=z0x (E:=Zn []) 1 255;have a:qw (Zn []) 1=[0]:=Wab;grind};unfold cls;rw[h,List.findIdx_cons];rfl
def jlm{l:W6}{k:Nat}(c:k<l.length):zwr (Zn (l.take k)) l[k]=Zn (l.take (k+1)):=by funext a b;unfold zwr Zn;rw[wcp c,Bool.eq_iff_iff];simp only[wc8,wda,wec,wco,wc9,beq_iff_eq];simp
def kOf_ex(l:W6)(x:l.length<=1000000)(i:∀s∈l,ze0 s):Tn (λo=>zmz o l) (λr=>r.2.1=((qw (Zn l) 256).length:Int)/\ClsAt (Zn l) r.1 256):=by unfold zmz;refine Tt.loop (λj t=>∃k a,k<=l.length/\j=l.length-k/\t=(l,(l.length:Int),(k:Int),⟨replicate 256 0,wci⟩,a)/\ClsAt (Zn (l.take k)) a 256) l.length waa ⟨0,_,U,Wab,rfl,⟨λb q=>?_⟩⟩ λj t⟨k,a,v,u,m,e⟩ y g=>?_;{rw[List.take_zero,jts];grind};subst m;dsimp only;refine wad (λc=>?_) (λc=>?_);{have d:k<l.length:=U;refine Tt.at d (Waj (jcp (ziw _) a e _ (i _ (wcm d))) waa.fst λp h=>wai ?_);rw[jlm d]at h;exact g (l.length-(k+1)) _ U ⟨k+1,_,U,rfl,rfl,h⟩};.have f:k=l.length:=X;rw[f,wc7]at e;exact Waj (z6d a (zqs (ziw l) e)) waa.fst λw n=>Tt.pure ⟨n,e⟩
def Of_one{E:Nat->Nat->Bool}{n:Int}{x y:Wa×Int×Unit}(h:x.2.1=n/\ClsAt E x.1 256)(j:y.2.1=n/\ClsAt E y.1 256):x=y:=by obtain⟨⟨a,k⟩,w,u⟩:=x;obtain⟨⟨b,l⟩,v,m⟩:=y;obtain⟨rfl,f⟩:=h;obtain⟨d,g⟩:=j;dsimp only at d;subst d;have:a=b:=by{apply wdp;intro i;by_cases e:i<256;{exact(f.c i e).trans (g.c i e).symm};.rw[wee U,wee U]};subst this;rfl
def Qe(fd:W4)(x:W7):Int×W4:=if x=[]then(-1,fd)else if ze7 fd x 0<0 then((fd.length:Int),fd++[x])else(ze7 fd x 0,fd)
def zl3(fd:W4)(x:W7):fd.length<=(Qe fd x).2.length/\(Qe fd x).2.length<=fd.length+1:=by unfold Qe;grind
def zve(sp:Nat->W7):List Nat->W4->W7->W4×W7
 |[],a,row=>(a,row)
 |c::cs,a,row=>zve sp cs (Qe a (sp c)).2 (row++[(Qe a (sp c)).1])
def znh(sp:Nat->W7)(a:Int):List Nat->W4->W7->Option (W4×W7)
 |[],b,row=>some (b,row)
 |c::cs,b,row=>if a<((Qe b (sp c)).2.length:Int)then none else znh sp a cs (Qe b (sp c)).2 (row++[(Qe b (sp c)).1])
def zp1(sp:Nat->W7):∀cs(fd:W4)(row:W7),fd.length<=(zve sp cs fd row).1.length
 |[],_,_=>wcs _
 |c::cs,fd,row=>wdv (zl3 fd (sp c)).1 (zp1 sp cs _ _)
def z6m(sp:Nat->W7)(a:Int):∀cs(fd:W4)(row:W7),(fd.length:Int)<=a->znh sp a cs fd row=if((zve sp cs fd row).1.length:Int)<=a then some (zve sp cs fd row)else none
 |[],fd,row,h=>by
  show some (fd,row)=if(fd.length:Int)<=a then some (fd,row)else none
  grind
 |c::cs,fd,row,h=>by
  have d:=zp1 sp cs (Qe fd (sp c)).2 (row++[(Qe fd (sp c)).1]);show(if a<((Qe fd (sp c)).2.length:Int)then none else znh sp a cs (Qe fd (sp c)).2 (row++[(Qe fd (sp c)).1]))=if((zve sp cs (Qe fd (sp c)).2 (row++[(Qe fd (sp c)).1])).1.length:Int)<=a then some (zve sp cs (Qe fd (sp c)).2 (row++[(Qe fd (sp c)).1]))else none
  by_cases b:a<((Qe fd (sp c)).2.length:Int);{grind};.rw[if_neg b];exact z6m sp a cs _ _ U
def zkz(start:Nat->W7)(step:W7->Nat->W7)(fd:W4)(at':Nat)(c:Nat):W7:=if at'=0 then start c else step (fd.getD at' []) c
def jg6(start:Nat->W7)(step:W7->Nat->W7)(tok:W7->Int)(W:Nat)(b:Int):Nat->Nat->W4->W4->W7->Option (Option (W4×W4×W7))
 |0,_,_,_,_=>none
 |f+1,i,c,rows,a=>if i<c.length then
   match znh (zkz start step c i) b (range W) c []with
   |none=>some none
   |some (d,row)=>jg6 start step tok W b f (i+1) d (rows++[row]) (a++[tok (c.getD i [])])
  else some (some (c,rows,a))
def zy2{start:Nat->W7}{step:W7->Nat->W7}{tok:W7->Int}{W:Nat}{a:Int}:∀{f i:Nat}{fd rows:W4}{labs:W7}{r:W4×W4×W7},(fd.length:Int)<=a->jg6 start step tok W a f i fd rows labs=some (some r)->fd.length<=r.1.length/\(r.1.length:Int)<=a
 |0,_,_,_,_,_,_,h=>by cases h
 |f+1,i,fd,rows,labs,r,d,h=>by unfold jg6 at h;by_cases c:i<fd.length;{rw[if_pos c,z6m _ _ _ _ _ d]at h;have j:=zp1 (zkz start step fd i) (range W) fd [];by_cases b:((zve (zkz start step fd i) (range W) fd []).1.length:Int)<=a;{rw[if_pos b]at h;obtain⟨e,g⟩:=zy2 b h;omega};grind};grind
def fb_ex(a:Wa){n:Nat}(h:ClsN a n)(c:Nat)(g:c<n):∃b:Nat,b<256/\Tn (λi=>Vh i a (c:Int)) (λr=>atL r 0=some (b:Int)):=by obtain⟨r,⟨N,d⟩,b,e,f⟩:=jjn a h c g;exact⟨b,e,r,⟨N,d⟩,f⟩
open Classical in
def zli(a:Wa)(c:Nat):Nat:=if h:∃b:Nat,b<256/\Tn (λd=>Vh d a (c:Int)) (λr=>atL r 0=some (b:Int))then h.choose else 0
def zx0(a:Wa)(c:Nat):zli a c<256:=by unfold zli;split;{omega};simp
def ji0(a:Wa){n:Nat}(h:ClsN a n)(c:Nat)(d:c<n):Tn (λe=>Vh e a (c:Int)) (λr=>atL r 0=some (zli a c:Int)):=by have b:=fb_ex a h c d;unfold zli;rw[dif_pos b];grind
def jge(a:Wa){n:Nat}(h:ClsN a n)(c:Nat)(b:c<n):Tn (λd=>zee d a (c:Int)) (λr=>atL r 0=some (zli a c:Int)):=ji0 a h c b
def spN(n:jl)(a:Wa)(fd:W4)(i c:Nat):W7:=zkz (λc=>zfd n (zli a c)) (λl c=>zk3 n l (zli a c)) fd i c
def z4l(n:jl)(b:Nat):RN n.1.length (zfd n b):=by unfold zfd;split;{rename_i h;exact h.fi.sub List.filter_sublist};.exact RN.nil _
def jax(n:jl)(l:W7)(b:Nat):RN n.1.length (zk3 n l b):=by
 unfold zk3;split
 .have a:RN n.1.length (jb7 n.1.length (zze n l)):=⟨zy8,λx h=>⟨(zje.1 h).1,(zje.1 h).2.1⟩⟩
  exact a.sub List.filter_sublist
 .exact RN.nil _
def jpk(n:jl)(a:Wa)(fd:W4)(i c:Nat):RN n.1.length (spN n a fd i c):=by unfold spN zkz;split;{exact z4l _ _};.exact jax _ _ _
def jss(a:Wa)(W:Int):Option (Option (W4×W4×W7))->jd×Int×Int×Unit
 |some (some (c,rows,b))=>((a,W,rows,b,()),(c.length:Int),0,())
 |_=>((⟨replicate 256 0,wci⟩,0,[],[],()),0,16,())
def zok(n:jl)(a:Wa)(W:Nat)(z:Int):=jg6 (λc=>zfd n (zli a c)) (λl c=>zk3 n l (zli a c)) (zod n) W z
def jiw{x:W7}:∀{l:W4}{i:Nat},ze7 l x i<(i+l.length:Int)/\(ze7 l x i=-1\/(i:Int)<=ze7 l x i)
 |[],i=>⟨by simp[ze7];omega,.inl rfl⟩
 |y::l,i=>by
  have:=jiw (x:=x) (l:=l) (i:=i+1);show(if y=x then(i:Int)else ze7 l x (i+1))<_/\_;have e:ze7 (y::l) x i=if y=x then(i:Int)else ze7 l x (i+1):=rfl
  grind
def jdc(fd:W4)(x:W7):∃t,(Qe fd x).2=fd++t:=by unfold Qe;split;{simp};.split;{simp};simp
def jbe{fd:W4}{x y:W7}(h:y∈(Qe fd x).2):y∈fd\/y=x:=by unfold Qe at h;grind
def jmc(n:jl){N:Nat}(T:N<=1000)(hz:zkv N 60000 n)(hs:∀s∈n.1,ze0 s)(hR:z7p n)(z:Int)(h1:1<=z)(h2:z<=200):Tn (λnn=>zay nn n z) (λr=>∃a:Wa,ClsAt (Zn n.1) a 256/\r=jss a ((qw (Zn n.1) 256).length:Int) (zok n a (qw (Zn n.1) 256).length z 202 0 [[]] [] [])):=by
 have z1:=hz.s;unfold zay;refine Waj (zcu n T hz) waa λb L=>?_;have L:=L.2 hR;subst L;refine wae rfl ?_;refine Tt.J (λs=>s=(z,false,n,⟨replicate 256 0,wci⟩,0,[],[])) (λnx G=>?_) λs j=>?_;{refine Tt.b1 (wae (wc3 U) (G _ ?_));grind};subst j;dsimp only;refine wae rfl ?_;refine Waj (jry n.1 U hs) waa λcw⟨hw,hc⟩=>?_;obtain⟨a,w,u⟩:=cw;dsimp only at hw hc;obtain⟨W,hW⟩:∃W,(qw (Zn n.1) 256).length=W:=⟨_,rfl⟩
 have c0:W<=256:=by{rw[<- hW];exact zeb _ _};have a4:ClsN a W:=hW▸zqs (ziw n.1) hc;rw[hW]at hw⊢;subst hw;obtain⟨R,I⟩:∃R,zok n a W z 202 0 [[]] [] []=R:=⟨_,rfl⟩
 refine Tt.mono (Q:=λr=>r=jss a (W:Int) R) ?_ λr hr=>⟨a,hc,by rw[I];exact hr⟩
 refine Tt.loop (λm s=>∃(i:Nat)(e rows:W4)(d:W7),m=202-i/\s=(z,(i:Int),n,⟨replicate 256 0,wci⟩,0,a,(W:Int),e,[],[],rows,d)/\i<=e.length/\(e.length:Int)<=z/\rows.length=i/\d.length=i/\(∀x∈e,RN n.1.length x)/\R=zok n a W z (202-i) i e rows d) 202 waa ⟨0,_,_,_,rfl,rfl,U,U,rfl,rfl,λx hx=>by rw[wcr.1 hx];exact RN.nil _,I.symm⟩ λm s⟨i,e,rows,d,hm,j,hi,hl,hr,L,hf,hB⟩ nx G=>?_;subst j;dsimp only;have v:zok n a W z (202-i) i e rows d=if i<e.length then(match znh (spN n a e i) z (range W) e []with
   |none=>some none
   |some (Z,row)=>zok n a W z (202-(i+1)) (i+1) Z (rows++[row]) (d++[zod n (e.getD i [])]))else some (some (e,rows,d)):=by
  rw[show 202-i=(202-(i+1))+1 by omega];rfl
 refine wab (λc=>?_) (λc=>Tt.pure ?_);rotate_left
 {have c:=wck c;rw[hB,v,if_neg U];rfl};have c:=wcj c;have M:i<e.length:=U;rw[if_pos M]at v;refine Tt.loop (λm s=>∃(k:Nat)(f:W4)(row:W7),k<=W/\m=W-k/\s=(z,(i:Int),(k:Int),n,⟨replicate 256 0,wci⟩,0,a,(W:Int),f,row,[],[],rows,d)/\i<f.length/\(f.length:Int)<=z/\row.length=k/\(∀x∈f,RN n.1.length x)/\f.getD i []=e.getD i []/\znh (spN n a e i) z (range W) e []=znh (spN n a e i) z ((range W).drop k) f row) W waa.fst ⟨0,e,[],U,Wab,rfl,M,hl,rfl,hf,rfl,rfl⟩ λm2 s⟨k,f,row,hk,c5,j,o,a8,b3,C,D,A⟩ ny b0=>?_;subst j;dsimp only;refine wab (λc=>?_) (λc=>?_)
 .have c:=wcj c;have O:k<W:=U;have a6:(range W).drop k=k::(range W).drop (k+1):=by{rw[wcy X];simp};have l:znh (spN n a e i) z ((range W).drop k) f row=if z<((Qe f (spN n a e i k)).2.length:Int)then none else znh (spN n a e i) z ((range W).drop (k+1)) (Qe f (spN n a e i k)).2 (row++[(Qe f (spN n a e i k)).1]):=by{rw[a6];rfl};have F:f.getD i []=f[i]:=X;refine Waj (jge a a4 k O) waa.fst.fst λbs a2=>wac _ a2 (wac _ (vn o) (wac _ (atN o) ?_));have b7:=(C _ (wcm o)).len;refine Waj (jej n T hz hs f[i] U (zli a k) (zx0 a k)) waa.fst.fst λp B=>?_;subst B;refine Tt.J (λs=>s=(z,(i:Int),(k:Int),spN n a e i k,n,⟨replicate 256 0,wci⟩,0,a,(W:Int),f,row,[],[],rows,d)) (λnz g=>?_) λs j=>?_;{refine wab (λc=>?_) λc=>g _ ?_;{have c:=wcj c;have a7:i=0:=U;refine Waj (jbc n T hz hs (zli a k) (zx0 a k)) waa.fst.fst λp B=>g _ ?_;subst B;unfold spN zkz;rw[if_pos a7]};.have c:=wck c;unfold spN zkz;rw[if_neg U,<- D,F]};subst j;dsimp only;obtain⟨p,B⟩:∃p,spN n a e i k=p:=⟨_,rfl⟩
  have S:RN n.1.length p:=B▸jpk n a e i k;have c8:=S.len;rw[B]at l⊢;refine Waj (jda f p U U λy hy=>by have:=(C y hy).len;omega) waa.fst.fst λq hq=>?_;subst hq;have hp:=zl3 f p;obtain⟨tl,P⟩:=jdc f p;refine Tt.J (λs=>s=(z,(i:Int),(k:Int),(Qe f p).1,n,⟨replicate 256 0,wci⟩,0,a,(W:Int),(Qe f p).2,row,[],[],rows,d)) (λnz g=>?_) λs j=>?_;{unfold Qe at g;refine wab (λc=>g _ ?_) λc=>?_;{have c:=wcj c;have:p=[]:=wex.1 U;rw[if_pos this]};.have c:=wck c;have a9:p≠[]:=λh=>c (by rw[h];rfl);rw[if_neg a9]at g;refine wab (λY=>Tt.b1 ?_) λY=>g _ ?_;{rw[if_pos (wcj Y)]at g;exact wac _ (ye Wag U) (g _ rfl)};.rw[if_neg (wck Y)]};subst j;dsimp only;refine wab (λH=>Tt.pure ?_) λH=>?_;{rw[hB,v,A,l,if_pos (wcj H)];rfl};.have H:=wck H;rw[if_neg H]at l;refine wac _ (ye Wag U) (Tt.b1 ?_);rw[wI U U];refine b0 (W-(k+1)) _ U ⟨k+1,(Qe f p).2,row++[(Qe f p).1],U,rfl,rfl,U,U,by simp[b3],λx hx=>?_,?_,A.trans l⟩;{rcases jbe hx with h|h;{exact C x h};.rw[h];exact S};.rw[<- D,P];simp only[we1];rw[wcx o]
 .have c:=wck c;have O:k=W:=U;have a5:(range W).drop k=[]:=wdu Wag;rw[a5]at A;have A:znh (spN n a e i) z (range W) e []=some (f,row):=A;rw[A]at v;dsimp only at v;have F:f.getD i []=f[i]:=by{simp[List.getD,o]};have b7:=(C _ (wcm o)).len;refine wac _ (ye Wag U) (wac _ (vn o) (wac _ (atN o) ?_));refine Waj (z91 n T hz f[i] U) waa.fst.fst λt ht=>?_;subst ht;refine wac _ (ye Wag U) (Tt.b1 ?_);rw[wI U U];exact Tt.fst (G (202-(i+1)) _ U ⟨i+1,f,rows++[row],d++[zod n f[i]],rfl,rfl,U,a8,by simp[hr],by simp[L],C,by rw[hB,v,<- D,F]⟩)
def b8(x:Int)(i:Nat):Int:=wr .u8 ((wr .u64 x).fdiv (2 ^ (min (56-8*(i:Int)).toNat 64)))
def jj4(l:W7):W7:=l.flatMap λx=>(range 8).map (b8 x)
def z0u(l:W7):W9:=(jj4 l).map λn=>UInt8.ofNat n.toNat
def jks{l:W7}{k:Nat}(a:k<l.length):jj4 (l.take (k+1))=jj4 (l.take k)++(range 8).map (b8 l[k]):=by unfold jj4;rw[wcp a,wez];simp
def Key_ex(l:W7)(u:l.length<=1000):Tn (λo=>zdh o l) (λr=>r=z0u l):=by unfold zdh;refine Tt.loop (λj t=>∃k out,k<=l.length/\j=l.length-k/\t=(l,(l.length:Int),(k:Int),out)/\out.length=8*k/\out=jj4 (l.take k)) l.length waa ⟨0,_,U,U,rfl,V,rfl⟩ λj t⟨k,out,s,q,h,n,b⟩ w f=>?_;subst h;dsimp only;refine wad (λc=>?_) (λc=>?_);{have a:k<l.length:=U;refine Tt.at a (Tt.loop (λm t=>∃i out,i<=8/\m=8-i/\t=(l[k],(56-8*i:Int),l,(l.length:Int),(k:Int),out)/\out.length=8*k+i/\out=jj4 (l.take k)++(range i).map (b8 l[k])) 8 waa.fst ⟨0,_,U,Wab,rfl,U,X⟩ λm t⟨i,out,p,v,h,n,b⟩ x g=>?_);subst h;dsimp only;refine wad (λc=>?_) (λc=>?_);{refine wac _ (show zvl .u64 (wr .u64 l[k]) (56-8*i:Int)=some ((wr .u64 l[k]).fdiv (2 ^ (min (56-8*(i:Int)).toNat 64))) by unfold zvl;rw[if_neg U];rfl) ?_;refine wac _ (ye X U) (wai ?_);refine g (8-(i+1)) _ U ⟨i+1,out++[b8 l[k] i],U,rfl,by show _=_;congr 2;omega,X,?_⟩;rw[b,we5,wc8,wc4];rfl};.have d:i=8:=U;subst d;refine wai ?_;exact(f (l.length-(k+1)) _ U ⟨k+1,_,U,rfl,rfl,U,by rw[b,jks a]⟩).fst};.have e:k=l.length:=U;rw[e,wc7]at b;exact wac _ rfl (Tt.pure (by rw[b];rfl))
def jr8:∀x:Fin 1000,(x.val:Int)=256*((UInt8.ofNat (b8 (x.val:Int) 6).toNat).toNat:Int)+((UInt8.ofNat (b8 (x.val:Int) 7).toNat).toNat:Int):=by decide +kernel
def z48(x:Int)(l:W7):z0u (x::l)=((range 8).map λi=>UInt8.ofNat (b8 x i).toNat)++z0u l:=by rfl
def jcr:∀{l m:W7},(∀x∈l,0<=x/\x<1000)->(∀x∈m,0<=x/\x<1000)->z0u l=z0u m->l=m
 |[],[],_,_,_=>rfl
 |[],y::m,_,_,h=>by trivial
 |x::l,[],_,_,h=>by trivial
 |x::l,y::m,c,d,h=>by rw[z48,z48]at h;obtain⟨j,f⟩:=List.append_inj h V;have n:=c x V;have o:=d y V;have g:∀i,i<8->UInt8.ofNat (b8 x i).toNat=UInt8.ofNat (b8 y i).toNat:=λi k=>by{simp_all};have a:=jr8 ⟨x.toNat,U⟩;have b:=jr8 ⟨y.toNat,U⟩;dsimp only at a b;rw[show((x.toNat:Nat):Int)=x by omega]at a;rw[show((y.toNat:Nat):Int)=y by omega]at b;rw[g 6 U,g 7 U]at a;have e:x=y:=U;rw[e,jcr (λz hz=>c z X) (λz hz=>d z X) f]
def zp7{α β:Type}{eqb:α->α->Bool}{k a:α}{v:β}(b:∀x,eqb a x=true->eqb k x=true->False):∀{m:Wam (α×β×Unit)},eqb a k=false->zl eqb (Yq eqb m k v) a=zl eqb m a
 |[],h=>by unfold Yq zl;rw[h];rfl
 |e::r,h=>by unfold Yq;cases c:eqb k e.1;{show zl eqb (e::Yq eqb r k v) a=zl eqb (e::r) a;unfold zl;cases eqb a e.1;{exact zp7 b h};rfl};.unfold zl;grind
theorem jby{x y:List Int}:∀{l:List (List Int)}{i:Nat},ze7 (l++[x]) y i=if ze7 l y i<0 then(if x=y then((i+l.length:Nat):Int)else -1)else ze7 l y i
 |[],i=>by
  rfl
 |z::l,i=>by
  show(if z=y then(i:Int)else ze7 (l++[x]) y (i+1))=if(if z=y then(i:Int)else ze7 l y (i+1))<0 then(if x=y then((i+(l.length+1):Nat):Int)else -1)else(if z=y then(i:Int)else ze7 l y (i+1))
  by_cases h:z=y
  ·grind
  ·simp only[if_neg h];rw[jby,show i+1+l.length=i+(l.length+1) by omega]
structure WhOk(N:Nat)(wh:Wh)(all:List (List Int)):Prop where
 g:∀x,RN N x->x≠[]->zl zoc wh (z0u x)=if ze7 all x 0<0 then none else some (ze7 all x 0)
def WhOk.nil(N:Nat):WhOk N [] [[]]:=⟨λx _ a=>by
 have:ze7 [[]] x 0=-1:=by{show(if([]:W7)=x then((0:Nat):Int)else -1)=-1;grind};rw[this,if_pos V];rfl⟩
def WhOk.add{N:Nat}{j:Wh}{all:W4}(h:WhOk N j all)(q:N<=1000){x:W7}(p:RN N x)(n:x≠[])(m:ze7 all x 0<0):WhOk N (Yq zoc j (z0u x) (all.length:Int)) (all++[x]):=⟨λy i d=>by
 have o:∀k,zoc k k=true:=λk=>by{simp[zoc]};rw[jby];by_cases e:x=y;{subst e;rw[if_pos m,if_pos rfl,zm0 (o _),if_neg U,wd1]};.have f:z0u y≠z0u x:=λa=>e (jcr (λz hz=>by have:=p.b z hz;omega) (λz hz=>by have:=i.b z hz;omega) a.symm);have c:zoc (z0u y) (z0u x)=false:=by{simpa [zoc]using f};rw[zp7 (λz l a=>f (by simp[zoc]at l a;grind)) c,h.g y i d];grind⟩
def DBX(n:jl)(Z a:Wa)(M q w c:Nat)(next:W4)(label:W7)(d:W7)(b:W4)(x:W7)(s:DBS):Prop:=
 ∃(row:W7)(all:W4)(e:Wh),s=((M:Int),(q:Int),(w:Int),(c:Int),n,Z,0,a,(w:Int),row,[],[],next,label,all,e)/\row.length=w/\row.take (c+1)=d.take c++[(Qe b x).1]/\all=(Qe b x).2/\WhOk n.1.length e all
def jqt{ι:Type}{D:Fi ι}{φ:ι->Nat}{β:Type}{Q:β->Prop}(hφ:Big D φ){n:jl}{Z a:Wa}{M q w c:Nat}{next:W4}{label:W7}(hM:M<=200)(hc:c<w)(N:n.1.length<=1000){row:W7}{all:W4}{j:Wh}(P:row.length=w)(h1:all.length<=M)(f:WhOk n.1.length j all)(h2:q<all.length)(h3:∀x∈all,RN n.1.length x)
  {nx:ι->DBS->Wal β}{b:W7}(o:Nx D Q (DBX n Z a M q w c next label row all b) nx) (B:RN n.1.length b) :
  Tt D (λi=>ifB (decide ((b.length:Int)=0)) (ja (jq row.length (c:Int)) λC=>ja (yi row C (-1)) λF=>nx i ((M:Int),(q:Int),(w:Int),(c:Int),n,Z,0,a,(w:Int),F,[],[],next,label,all,j)) (ja (zdh (φ i) b) λr=>ja (some (zl zoc j r)) λt=>J (λ(l:Int×(Wam (W9×Int×Unit))×W4)=>ja (jq row.length (c:Int)) λG=>ja (yi row G l.1) λH=>nx i ((M:Int),(q:Int),(w:Int),(c:Int),n,Z,0,a,(w:Int),H,[],[],next,label,l.2.2,l.2.1)) λu=>ifB (!t.isSome) (ja (some (all.length:Int)) λy=>ja (some (Yq zoc j r y)) λI=>ja (apO 24 all [b]) λL=>u (y,I,L)) (u (gD 0 t,j,all)))) Q:=by
 have T:=B.len;have hp:=zl3 all b;have p:∀v,(row.set c v).take (c+1)=row.take c++[v]:=λv=>by
  have z:c<(row.set c v).length:=W;rw[wcp z,List.take_set_of_le (wcs c)];simp
 refine wab (λc0=>waj U (wac _ (yw _ U) (o _ ⟨_,_,_,rfl,by simp[P],?_,?_,f⟩))) λc0=>?_
 ·have c0:=wcj c0;have e:b=[]:=wex.1 U;rw[p];unfold Qe;rw[if_pos e]
 ·have c0:=wcj c0;have e:b=[]:=wex.1 U;unfold Qe;rw[if_pos e]
 have c0:=wck c0;have k:b≠[]:=λh=>c0 (by rw[h];rfl);refine Waj (Key_ex _ U) hφ λY m=>Tt.b1 ?_;subst m;have O:=f.g b B k;refine Tt.J (λs=>∃(j:Wh),s=((Qe all b).1,j,(Qe all b).2)/\WhOk n.1.length j (Qe all b).2) (λny d=>?_) λs⟨j,R,S⟩=>?_
 ·rw[O];unfold Qe at d;rw[if_neg k]at d;by_cases A:ze7 all b 0<0
  ·rw[if_pos A]at d⊢;exact wah rfl (Tt.b1 (Tt.b1 (wac _ (ye X U) (d _ ⟨_,rfl,f.add N B k A⟩))))
  ·rw[if_neg A]at d⊢;exact wae rfl (d _ ⟨_,rfl,f⟩)
 ·subst R;exact waj U (wac _ (yw _ U) (o _ ⟨_,_,_,rfl,X,p _,rfl,S⟩))
def jkx(n:jl){N:Nat}(T:N<=1000)(hz:zkv N 60000 n)(hs:∀s∈n.1,ze0 s)(hR:z7p n)(z:Int)(d2:1<=z)(d3:z<=200):Tn (λnn=>zbt nn n z) (λr=>∃a,ClsAt (Zn n.1) a 256/\r=jss a ((qw (Zn n.1) 256).length:Int) (zok n a (qw (Zn n.1) 256).length z 202 0 [[]] [] [])):=by
 have z1:=hz.s;unfold zbt;refine Waj (zm5 n T hz) waa λr k=>?_;have k:=k.2 hR;subst k;refine wae rfl (Tt.J (λs=>s=(z,false,n,⟨replicate 256 0,wci⟩,0,[],[])) (λnx v=>?_) λs d=>?_);{refine Tt.b1 (wae (wc3 U) (v _ ?_));rw[wc3 U]};subst d;dsimp only;refine wae rfl ?_;obtain⟨M,rfl⟩:∃M:Nat,z=(M:Int):=⟨z.toNat,U⟩
 refine Waj (kOf_ex n.1 U hs) waa λqq⟨hw,hc⟩=>?_;obtain⟨a,w',u⟩:=qq;dsimp only at hw hc;obtain⟨w,hW⟩:∃w,(qw (Zn n.1) 256).length=w:=⟨_,rfl⟩
 have d1:w<=256:=by{rw[<- hW];exact zeb _ _};have a3:=hW▸zqs (ziw n.1) hc;rw[hW]at hw⊢;subst hw;obtain⟨R,D⟩:∃R,zok n a w (M:Int) 202 0 [[]] [] []=R:=⟨_,rfl⟩
 refine Tt.mono ?_ λr k=>⟨a,hc,by rw[D];exact k⟩
 have H:jss a (w:Int) (some none)=((⟨replicate 256 0,wci⟩,0,[],[],()),0,16,()):=rfl;generalize (⟨replicate 256 0,wci⟩:Wa)=Z at H⊢;refine Tt.loop (λm s=>∃(q:Nat)(next:W4)(label:W7)(b:W4)(p:Wh),m=202-q/\s=((M:Int),(q:Int),n,Z,0,a,(w:Int),[],[],next,label,b,p)/\q<=b.length/\b.length<=M/\next.length=q/\label.length=q/\(∀x∈b,RN n.1.length x)/\WhOk n.1.length p b/\R=zok n a w (M:Int) (202-q) q b next label) 202 waa ⟨0,_,_,_,_,rfl,rfl,U,X,rfl,rfl,λx hx=>by rw[wcr.1 hx];exact RN.nil _,WhOk.nil _,D.symm⟩ λm s⟨q,next,label,b,p,hm,d,hi,hl,i3,i4,hf,b2,hB⟩ nx v=>?_;subst d;dsimp only;have i:zok n a w (M:Int) (202-q) q b next label=if q<b.length then(match znh (spN n a b q) (M:Int) (range w) b []with
   |none=>some none
   |some (Y,row)=>zok n a w (M:Int) (202-(q+1)) (q+1) Y (next++[row]) (label++[zod n (b.getD q [])]))else some (some (b,next,label)):=by
  rw[show 202-q=(202-(q+1))+1 by omega];rfl
 refine wab (λc=>?_) (λc=>Tt.pure ?_);rotate_left
 {have c:=wck c;rw[hB,i,if_neg U];rfl};have c:=wcj c;have F:q<b.length:=U;rw[if_pos F]at i;refine wac _ (mkN U U) ?_;simp only[wci];refine Tt.loop (λm s=>∃(c:Nat)(row:W7)(all:W4)(p:Wh),m=w-c/\c<=w/\s=((M:Int),(q:Int),(w:Int),(c:Int),n,Z,0,a,(w:Int),row,[],[],next,label,all,p)/\row.length=w/\all.length<=M/\q<all.length/\(∀x∈all,RN n.1.length x)/\WhOk n.1.length p all/\all.getD q []=b.getD q []/\znh (spN n a b q) (M:Int) (range w) b []=znh (spN n a b q) (M:Int) ((range w).drop c) all (row.take c)) w waa.fst ⟨0,_,_,_,U,U,rfl,V,hl,F,hf,b2,rfl,rfl⟩ λm s⟨c,row,all,p,hm,c0,d,j1,j2,l,I,j5,j6,L⟩ ny a7=>?_;subst d;dsimp only;refine wab (λC=>?_) (λC=>?_);{have C:=wcj C;have j:c<w:=U;have a5:(range w).drop c=c::(range w).drop (c+1):=by{rw[wcy (by simpa using j)];simp};have e:znh (spN n a b q) (M:Int) ((range w).drop c) all (row.take c)=if(M:Int)<((Qe all (spN n a b q c)).2.length:Int)then none else znh (spN n a b q) (M:Int) ((range w).drop (c+1)) (Qe all (spN n a b q c)).2 (row.take c++[(Qe all (spN n a b q c)).1]):=by{rw[a5];rfl};have a6:all.getD q []=all[q]:=by{simp[List.getD,l]};have a8:=(I _ (wcm l)).len;refine Waj (ji0 a a3 c j) waa.fst.fst λbs a1=>wac _ a1 (Tt.J (DBX n Z a M q w c next label row all (spN n a b q c)) (λnz G=>?_) λs⟨o,zc8,Q,d,O,A,B,P⟩=>?_);{refine wab (λg=>?_) (λg=>?_);{have g:=wcj g;have c7:q=0:=U;have y:spN n a b q c=zfd n (zli a c):=by{unfold spN zkz;grind};refine Tt.J (DBX n Z a M q w c next label row all (spN n a b q c)) (λnu f=>?_) λs⟨o,zc8,Q,d,O,A,B,P⟩=>?_;{refine Waj (jqa n T hz (zli a c) (zx0 a c)) waa.fst.fst λr k=>?_;subst k;rw[y]at f;exact jqt waa.fst.fst U j U j1 j2 j5 l I f (z4l _ _)};.subst d;exact G _ ⟨_,_,_,rfl,O,A,B,P⟩};.have g:=wck g;have y:spN n a b q c=zk3 n all[q] (zli a c):=by{unfold spN zkz;grind};refine Tt.J (DBX n Z a M q w c next label row all (spN n a b q c)) (λnu f=>?_) λs⟨o,zc8,Q,d,O,A,B,P⟩=>?_;{refine wac _ (vn l) (wac _ (atN l) ?_);refine Waj (jwj n T hz all[q] U (zli a c) (zx0 a c)) waa.fst.fst λr k=>?_;subst k;rw[y]at f;exact jqt waa.fst.fst U j U j1 j2 j5 l I f (jax _ _ _)};.subst d;exact G _ ⟨_,_,_,rfl,O,A,B,P⟩};.subst d;dsimp only;have b4:=jpk n a b q c;generalize spN n a b q c=S at b4 A B e;have hp:=zl3 all S;obtain⟨tl,d0⟩:=jdc all S;subst B;refine wab (λg=>Tt.pure ?_) λg=>Tt.b1 ?_;{grind};have g:=wck g;rw[if_neg g,<- A]at e;rw[wI U U];refine a7 (w-(c+1)) _ U ⟨c+1,_,_,_,rfl,U,rfl,O,U,U,λx hx=>?_,P,?_,L.trans e⟩;{rcases jbe hx with h|h;{grind};grind};grind};.have C:=wck C;have c3:c=w:=U;have a4:(range w).drop c=[]:=wdu X;have a9:row.take c=row:=wd2 U;rw[a4,a9]at L;have L:znh (spN n a b q) (M:Int) (range w) b []=some (all,row):=L;rw[L]at i;dsimp only at i;have a6:all.getD q []=all[q]:=X;have a8:=(I _ (wcm l)).len;refine wac _ (ye X U) (wac _ (vn l) (wac _ (atN l) ?_));refine Waj (jrm n T hz all[q] U) waa.fst.fst λt ht=>?_;subst ht;refine wac _ (ye X U) (Tt.b1 ?_);rw[wI U U];exact(v (202-(q+1)) _ U ⟨q+1,next++[row],label++[zod n all[q]],all,p,rfl,rfl,U,j2,X,X,I,j5,X⟩).fst
def ClsAt.one{E:Nat->Nat->Bool}{a b:Wa}(c:ClsAt E a 256)(d:ClsAt E b 256):a=b:=
 congrArg (·.1) (Of_one (x:=(a,0,())) (y:=(b,0,())) ⟨rfl,c⟩ ⟨rfl,d⟩)
end
end Go.Proofs.YtigdmmgklieofaaGreat.T
namespace Go.Proofs.YtigdmmgklieofaaGreat
noncomputable section
open _root_.Go.Proofs.Tryz
set_option maxRecDepth 100000
set_option maxHeartbeats 8000000
set_option linter.unusedVariables false
set_option linter.unusedSimpArgs false
set_option linter.defProp false
open List (replicate range)
open Go
structure Rx where
 kind:Int
 s0:Int
 s1:Int
 s2:Int
 s3:Int
deriving DecidableEq
def jwv(a b c d e b1 f g:Int):Bool:=a == e && (b == b1 && (c == f && d == g))
def ofK(k:Int):Int:=if k=1\/k=2 then 0 else if k=3\/k=4 then 2 else if k=5\/k=6\/k=7 then 1 else -1
def Rx.bare(x:Rx):Bool:=jwv x.s0 x.s1 x.s2 x.s3 0 0 0 0
def zdj:List Rx->Int->Int
 |[],q=>if q=1 then 0 else 3
 |x::r,q=>if ofK x.kind<0\/(x.kind≠1/\x.bare=false)then 1 else if q<ofK x.kind then 3 else zdj r (q-ofK x.kind+1)
def jfz(l:List Rx):Int:=if 512<l.length then 4 else zdj l 0
inductive E where
 |set (s0 s1 s2 s3:Int)
 |empty
 |cat (a b:E)
 |alt (a b:E)
 |star (a:E)
 |plus (a:E)
 |opt (a:E)
def Qw(k:Int):Rx:=⟨k,0,0,0,0⟩
def post:E->List Rx
 |.set c d e f=>[⟨1,c,d,e,f⟩]
 |.empty=>[Qw 2]
 |.cat a b=>post a++(post b++[Qw 3])
 |.alt a b=>post a++(post b++[Qw 4])
 |.star a=>post a++[Qw 5]
 |.plus a=>post a++[Qw 6]
 |.opt a=>post a++[Qw 7]
def zif(e:E):0<(post e).length:=by cases e<;>simp[post]<;>omega
def flat(st:List E):List Rx:=(st.reverse).flatMap post
def J7(e:E)(st:Wam E):flat (e::st)=flat st++post e:=by simp[flat]
def jvm(x:Rx)(h:x.bare=true):x=Qw x.kind:=by obtain⟨k,a,b,c,d⟩:=x;simp[Rx.bare,jwv]at h;simp[Qw,h]
def jq3(l:Wam Rx):∀st,zdj l st.length=0->∃e,flat st++l=post e:=by
 induction l with
 |nil=>
  intro st h;rw[zdj]at h;split at h
  .rename_i j;match st,j with
   |[e],_=>exact⟨e,by simp[flat]⟩
   |[],j=>simp at j
   |_::_::_,j=>grind
  omega
 |cons x r k=>
  intro st h;rw[zdj]at h;split at h;{omega}
  .rename_i j;split at h;{omega}
   .rename_i d;have c:x.kind=1\/x.kind=2\/x.kind=3\/x.kind=4\/x.kind=5\/x.kind=6\/x.kind=7:=by{have:¬ofK x.kind<0:=λh=>j (Or.inl h);unfold ofK at this;split at this;{omega};.split at this;{omega};.split at this<;>omega};have m:x.kind≠1->x=Qw x.kind:=λo=>jvm x (by
     cases n:x.bare;{exact absurd (Or.inr ⟨o,n⟩) j};.rfl)
    rcases c with c|c|c|c|c|c|c;{have f:x=⟨1,x.s0,x.s1,x.s2,x.s3⟩:=by{rw[<- c]};have i:ofK x.kind=0:=by{rw[c];rfl};obtain⟨e,g⟩:=k (.set x.s0 x.s1 x.s2 x.s3::st) (by rw[i]at h;simpa using h);exact⟨e,by rw[<- g,J7,f];simp[post]⟩};{have f:=m U;rw[c]at f;have i:ofK x.kind=0:=by{rw[c];rfl};obtain⟨e,g⟩:=k (.empty::st) (by rw[i]at h;simpa using h);exact⟨e,by rw[<- g,J7,f];simp[post]⟩}
    .have f:=m U;rw[c]at f;have i:ofK x.kind=2:=by{rw[c];rfl};rw[i]at h d;match st,h,d with
     |b::a::st,h,_=>
      obtain⟨e,g⟩:=k (.cat a b::st) (by rw[<- h];congr 1;simp;omega);exact⟨e,by rw[<- g,J7,J7,J7,f];simp[post]⟩
     |[],_,d=>simp at d
     |[_],_,d=>simp at d
    .have f:=m U;rw[c]at f;have i:ofK x.kind=2:=by{rw[c];rfl};rw[i]at h d;match st,h,d with
     |b::a::st,h,_=>
      obtain⟨e,g⟩:=k (.alt a b::st) (by rw[<- h];congr 1;simp;omega);exact⟨e,by rw[<- g,J7,J7,J7,f];simp[post]⟩
     |[],_,d=>simp at d
     |[_],_,d=>simp at d
    .have f:=m U;rw[c]at f;have i:ofK x.kind=1:=by{rw[c];rfl};rw[i]at h d;match st,h,d with
     |a::st,h,_=>
      obtain⟨e,g⟩:=k (.star a::st) X;exact⟨e,by rw[<- g,J7,J7,f];simp[post]⟩
     |[],_,d=>grind
    .have f:=m U;rw[c]at f;have i:ofK x.kind=1:=by{rw[c];rfl};rw[i]at h d;match st,h,d with
     |a::st,h,_=>
      obtain⟨e,g⟩:=k (.plus a::st) X;exact⟨e,by rw[<- g,J7,J7,f];simp[post]⟩
     |[],_,d=>grind
    .have f:=m U;rw[c]at f;have i:ofK x.kind=1:=by{rw[c];rfl};rw[i]at h d;match st,h,d with
     |a::st,h,_=>
      obtain⟨e,g⟩:=k (.opt a::st) X;exact⟨e,by rw[<- g,J7,J7,f];simp[post]⟩
     |[],_,d=>grind
def jtz(l:Wam Rx)(h:jfz l=0):l.length<=512/\∃e,l=post e:=by unfold jfz at h;split at h;{omega};.obtain⟨e,a⟩:=jq3 l [] h;exact⟨U,e,by simpa [flat]using a⟩
def jv:E->Nat
 |.set ..=>1|.empty=>0|.cat a b=>jv a+jv b|.alt a b=>jv a+jv b|.star a=>jv a|.plus a=>jv a|.opt a=>jv a
def yh:E->Bool
 |.set ..=>false|.empty=>true|.cat a b=>yh a && yh b|.alt a b=>yh a ||yh b|.star _=>true|.plus a=>yh a|.opt _=>true
def qj:E->Int->List Int
 |.set ..,n=>[n]|.empty,_=>[]
 |.cat a b,n=>qj a n++(if yh a then qj b (n+jv a)else [])
 |.alt a b,n=>qj a n++qj b (n+jv a)
 |.star a,n=>qj a n|.plus a,n=>qj a n|.opt a,n=>qj a n
def vk:E->Int->List Int
 |.set ..,n=>[n]|.empty,_=>[]
 |.cat a b,n=>(if yh b then vk a n else [])++vk b (n+jv a)
 |.alt a b,n=>vk a n++vk b (n+jv a)
 |.star a,n=>vk a n|.plus a,n=>vk a n|.opt a,n=>vk a n
def za1:E->Int->Int->Int->Prop
 |.set ..,_,_,_=>False|.empty,_,_,_=>False
 |.cat a b,n,i,j=>za1 a n i j\/za1 b (n+jv a) i j\/(i∈vk a n/\j∈qj b (n+jv a))
 |.alt a b,n,i,j=>za1 a n i j\/za1 b (n+jv a) i j
 |.star a,n,i,j=>za1 a n i j\/(i∈vk a n/\j∈qj a n)
 |.plus a,n,i,j=>za1 a n i j\/(i∈vk a n/\j∈qj a n)
 |.opt a,n,i,j=>za1 a n i j
def zl1:E->List Rx
 |.set a b c d=>[⟨1,a,b,c,d⟩]|.empty=>[]|.cat a b=>zl1 a++zl1 b|.alt a b=>zl1 a++zl1 b|.star a=>zl1 a|.plus a=>zl1 a|.opt a=>zl1 a
def z43(e:E):(zl1 e).length=jv e:=by induction e<;>simp_all [zl1,jv]
def zpu(e:E):(post e).filter (λx=>x.kind == 1)=zl1 e:=by induction e<;>simp_all [zl1,post,Qw]
def zkt(l:List Int):Prop:=l.Pairwise (· < ·)
def zc0{a b:Wam Int}{m:Int}(c:zkt a)(d:zkt b)(e:∀x∈a,x<m)(f:∀x∈b,m<=x):zkt (a++b):=by unfold zkt;rw[wel];exact⟨c,d,λx g y h=>X⟩
def V7(e:E):∀n,zkt (qj e n)/\∀x∈qj e n,n<=x/\x<n+jv e:=by induction e with|set=>{intro n;exact⟨by simp[qj,zkt],by simp[qj,jv];omega⟩}|empty=>{intro n;exact⟨by simp[qj,zkt],by simp[qj]⟩}|cat a b d f=>{intro n;obtain⟨h,i⟩:=d n;obtain⟨j,k⟩:=f (n+jv a);refine⟨?_,?_⟩;{simp[qj];split;{exact zc0 h j (λx c=>(i x c).2) (λx c=>(k x c).1)};grind};.intro x c;simp[qj,wcu]at c;simp[jv];grind}|alt a b d f=>{intro n;obtain⟨h,i⟩:=d n;obtain⟨j,k⟩:=f (n+jv a);refine⟨zc0 h j (λx c=>(i x c).2) (λx c=>(k x c).1),?_⟩;intro x c;simp[qj,wcu]at c;simp[jv];grind}|star a g=>{exact g}|plus a g=>{exact g}|opt a g=>exact g
def zb5(e:E):∀n,zkt (vk e n)/\∀x∈vk e n,n<=x/\x<n+jv e:=by induction e with|set=>{intro n;exact⟨by simp[vk,zkt],by simp[vk,jv];omega⟩}|empty=>{intro n;exact⟨by simp[vk,zkt],by simp[vk]⟩}|cat a b d f=>{intro n;obtain⟨h,i⟩:=d n;obtain⟨j,k⟩:=f (n+jv a);refine⟨?_,?_⟩;{simp[vk];split;{exact zc0 h j (λx c=>(i x c).2) (λx c=>(k x c).1)};grind};.intro x c;simp[vk,wcu]at c;simp[jv];grind}|alt a b d f=>{intro n;obtain⟨h,i⟩:=d n;obtain⟨j,k⟩:=f (n+jv a);refine⟨zc0 h j (λx c=>(i x c).2) (λx c=>(k x c).1),?_⟩;intro x c;simp[vk,wcu]at c;simp[jv];grind}|star a g=>{exact g}|plus a g=>{exact g}|opt a g=>exact g
def jfr(e:E):∀n i j,za1 e n i j->(n<=i/\i<n+jv e)/\n<=j/\j<n+jv e:=by
 induction e with
 |set=>intro n i j h;trivial
 |empty=>intro n i j h;trivial
 |cat a b f g=>
  intro n i j h;simp[jv];rcases h with h|h|⟨h,c⟩
  {grind};{grind};.have:=(zb5 a n).2 i h;have:=(V7 b _).2 j c;omega
 |alt a b f g=>intro n i j h;simp[jv];rcases h with h|h;{grind};grind
 |star a d=>
  intro n i j h;simp[jv];rcases h with h|⟨h,c⟩
  {grind};.have:=(zb5 a n).2 i h;have:=(V7 a n).2 j c;omega
 |plus a d=>
  intro n i j h;simp[jv];rcases h with h|⟨h,c⟩
  {grind};.have:=(zb5 a n).2 i h;have:=(V7 a n).2 j c;omega
 |opt a d=>exact d
def AtT(l:List Rx)(s:Nat)(e:E)(t:Nat):Prop:=∃a b,l=a++post e++b/\s=a.length/\t=s+(post e).length
def zw:E->Int|.set ..=>1|.empty=>2|.cat ..=>3|.alt ..=>4|.star _=>5|.plus _=>6|.opt _=>7
def wbi(e:E):AtT (post e) 0 e (post e).length:=⟨[],[],V,rfl,V⟩
def AtT.bound{l:Wam Rx}{s t:Nat}{e:E}(h:AtT l s e t):s<t/\t<=l.length:=by obtain⟨a,b,rfl,rfl,rfl⟩:=h;have:=zif e;grind
def jj0(e:E):(post e).getLast?=some (match e with|.set a b c d=>⟨1,a,b,c,d⟩|e=>Qw (zw e)):=by cases e<;>simp[post,zw]
def AtT.kind{l:Wam Rx}{s t:Nat}{e:E}(h:AtT l s e t)(j:Nat)(f:j<l.length)(g:j+1=t):l[j].kind=zw e:=by obtain⟨a,b,rfl,rfl,rfl⟩:=h;have i:=zif e;have d:=jj0 e;rw[List.getLast?_eq_getElem?]at d;have c:(a++post e++b)[j]?=(post e)[(post e).length-1]?:=by{grind};rw[d,wch f,wdn]at c;rw[c];cases e<;>rfl
def AtT.cat{l:Wam Rx}{s t:Nat}{a b:E}(h:AtT l s (.cat a b) t):∃m,AtT l s a m/\AtT l m b (t-1)/\s<m/\m<t-1:=by obtain⟨c,d,rfl,rfl,rfl⟩:=h;have:=zif a;have:=zif b;refine⟨c.length+(post a).length,⟨c,post b++[Qw 3]++d,by simp[post],rfl,rfl⟩,⟨c++post a,[Qw 3]++d,by simp[post],V,by simp[post];omega⟩,U,by simp[post];omega⟩
def AtT.alt{l:Wam Rx}{s t:Nat}{a b:E}(h:AtT l s (.alt a b) t):∃m,AtT l s a m/\AtT l m b (t-1)/\s<m/\m<t-1:=by obtain⟨c,d,rfl,rfl,rfl⟩:=h;have:=zif a;have:=zif b;refine⟨c.length+(post a).length,⟨c,post b++[Qw 4]++d,by simp[post],rfl,rfl⟩,⟨c++post a,[Qw 4]++d,by simp[post],V,by simp[post];omega⟩,U,by simp[post];omega⟩
def AtT.star{l:Wam Rx}{s t:Nat}{a:E}(h:AtT l s (.star a) t):AtT l s a (t-1):=by obtain⟨b,c,rfl,rfl,rfl⟩:=h;exact⟨b,[Qw 5]++c,by simp[post],rfl,by simp[post]⟩
def AtT.plus{l:Wam Rx}{s t:Nat}{a:E}(h:AtT l s (.plus a) t):AtT l s a (t-1):=by obtain⟨b,c,rfl,rfl,rfl⟩:=h;exact⟨b,[Qw 6]++c,by simp[post],rfl,by simp[post]⟩
def AtT.opt{l:Wam Rx}{s t:Nat}{a:E}(h:AtT l s (.opt a) t):AtT l s a (t-1):=by obtain⟨b,c,rfl,rfl,rfl⟩:=h;exact⟨b,[Qw 7]++c,by simp[post],rfl,by simp[post]⟩
def numL(l:List Rx)(i:Nat):Nat:=((l.take i).filter λx=>x.kind == 1).length
def jk2(l:Wam Rx)(k:Nat)(h:k<l.length):numL l (k+1)=numL l k+if l[k].kind=1 then 1 else 0:=by unfold numL;rw[wcp h,wfd,wc1];grind
def jh1(l:Wam Rx)(k:Nat):numL l k<=k:=by unfold numL;grind
def AtT.num{l:Wam Rx}{s t:Nat}{e:E}(h:AtT l s e t):numL l t=numL l s+jv e:=by obtain⟨a,b,rfl,rfl,rfl⟩:=h;unfold numL;rw[<- z43,<- zpu,wc4,List.take_left,<- wc4,List.take_left' V,wfd,wc1]
def zar:E->Int->List (E×Int)
 |.set a b c d,n=>[(.set a b c d,n)]
 |.empty,n=>[(.empty,n)]
 |.cat a b,n=>zar a n++(zar b (n+jv a)++[(.cat a b,n)])
 |.alt a b,n=>zar a n++(zar b (n+jv a)++[(.alt a b,n)])
 |.star a,n=>zar a n++[(.star a,n)]
 |.plus a,n=>zar a n++[(.plus a,n)]
 |.opt a,n=>zar a n++[(.opt a,n)]
def za(e:E):∀n,(zar e n).length=(post e).length:=by induction e<;>intro n<;>simp_all [zar,post]
def zac:E->Int->Int->Int->Bool
 |.cat x y,n,i,j=>decide (i∈vk x n) && decide (j∈qj y (n+jv x))
 |.star x,n,i,j=>decide (i∈vk x n) && decide (j∈qj x n)
 |.plus x,n,i,j=>decide (i∈vk x n) && decide (j∈qj x n)
 |_,_,_,_=>false
def zja(e:E)(n i j:Int):Bool:=(zar e n).any λx=>zac x.1 x.2 i j
def jjp(a b:E)(n i j:Int):zac (.cat a b) n i j=true↔(i∈vk a n/\j∈qj b (n+jv a)):=by simp[zac]
def jg4(a:E)(n i j:Int):zac (.star a) n i j=true↔(i∈vk a n/\j∈qj a n):=by simp[zac]
def jfd(a:E)(n i j:Int):zac (.plus a) n i j=true↔(i∈vk a n/\j∈qj a n):=by simp[zac]
def zmi{α:Type}(l:Wam α)(x:α)(p:α->Bool):(l++[x]).any p=true↔l.any p=true\/p x=true:=V
def jhr{α:Type}(l m:Wam α)(p:α->Bool):(l++m).any p=true↔l.any p=true\/m.any p=true:=V
def jcf(e:E):∀n i j,zja e n i j=true↔za1 e n i j:=by induction e with|set=>{intro n i j;simp[zja,zar,zac,za1]}|empty=>{intro n i j;simp[zja,zar,zac,za1]}|cat a b c d=>{intro n i j;unfold zja zar za1;rw[jhr,zmi,jjp];exact or_congr (c n i j) (or_congr (d _ i j) Iff.rfl)}|alt a b c d=>{intro n i j;unfold zja zar za1;rw[jhr,zmi];refine or_congr (c n i j) ?_;rw[show zac (E.alt a b) n i j=false from rfl,wdq,or_false];exact d _ i j}|star a c=>{intro n i j;unfold zja zar za1;rw[zmi,jg4];exact or_congr (c n i j) Iff.rfl}|plus a c=>{intro n i j;unfold zja zar za1;rw[zmi,jfd];exact or_congr (c n i j) Iff.rfl}|opt a c=>intro n i j;unfold zja zar za1;rw[zmi,show zac (E.opt a) n i j=false from rfl,wdq,or_false];exact c n i j
def jvq(l:Wam Rx)(e:E):∀s t,AtT l s e t->∀k x,(zar e (numL l s))[k]?=some x->∃r,AtT l r x.1 (s+k+1)/\(numL l r:Int)=x.2:=by
 induction e with
 |set a b c d=>
  intro s t h k x f;have w:=h;obtain⟨D,F,_,rfl,rfl⟩:=w;match k,f with
  |0,f=>simp[zar]at f;subst f;exact⟨_,by assumption,rfl⟩
  |k+1,f=>trivial
 |empty=>
  intro s t h k x f;have w:=h;obtain⟨D,F,_,rfl,rfl⟩:=w;match k,f with
  |0,f=>simp[zar]at f;subst f;exact⟨_,by assumption,rfl⟩
  |k+1,f=>trivial
 |cat a b g o=>
  intro s t h k x f;obtain⟨m,i,n,C,A⟩:=h.cat;have B:=i.num;have v:(post a).length=m-s:=by{obtain⟨_,_,_,rfl,rfl⟩:=i;omega};have G:(post b).length=t-1-m:=by{obtain⟨_,_,_,j,p⟩:=n;omega};simp[zar]at f;by_cases j:k<(post a).length;{rw[wcx (by rw[za];omega)]at f;exact g s m i k x f}
  .rw[wcw (by rw[za];omega),za]at f;by_cases p:k-(post a).length<(post b).length;{rw[wcx (by rw[za];omega)]at f;obtain⟨r,y,z⟩:=o m (t-1) n _ x (by rw[B];assumption);exact⟨r,by rw[show s+k+1=m+(k-(post a).length)+1 from by omega];exact y,z⟩}
   .rw[wcw (by rw[za];omega),za]at f;match u:k-(post a).length-(post b).length,f with
    |0,f=>simp at f;subst f;exact⟨s,by rw[show s+k+1=t from by omega];exact h,rfl⟩
    |q+1,f=>simp at f
 |alt a b g o=>
  intro s t h k x f;obtain⟨m,i,n,C,A⟩:=h.alt;have B:=i.num;have v:(post a).length=m-s:=by{obtain⟨_,_,_,rfl,rfl⟩:=i;omega};have G:(post b).length=t-1-m:=by{obtain⟨_,_,_,j,p⟩:=n;omega};simp[zar]at f;by_cases j:k<(post a).length;{rw[wcx (by rw[za];omega)]at f;exact g s m i k x f}
  .rw[wcw (by rw[za];omega),za]at f;by_cases p:k-(post a).length<(post b).length;{rw[wcx (by rw[za];omega)]at f;obtain⟨r,y,z⟩:=o m (t-1) n _ x (by rw[B];assumption);exact⟨r,by rw[show s+k+1=m+(k-(post a).length)+1 from by omega];exact y,z⟩}
   .rw[wcw (by rw[za];omega),za]at f;match u:k-(post a).length-(post b).length,f with
    |0,f=>simp at f;subst f;exact⟨s,by rw[show s+k+1=t from by omega];exact h,rfl⟩
    |q+1,f=>simp at f
 |star a g=>
  intro s t h k x f;have i:=h.star;have n:=h.bound;have v:(post a).length=t-1-s:=by{obtain⟨_,_,_,j,p⟩:=i;omega};simp[zar]at f;by_cases j:k<(post a).length;{rw[wcx (by rw[za];omega)]at f;exact g s (t-1) i k x f}
  .rw[wcw (by rw[za];omega),za]at f;match u:k-(post a).length,f with
   |0,f=>simp at f;subst f;exact⟨s,by rw[show s+k+1=t from by omega];exact h,rfl⟩
   |q+1,f=>simp at f
 |plus a g=>
  intro s t h k x f;have i:=h.plus;have n:=h.bound;have v:(post a).length=t-1-s:=by{obtain⟨_,_,_,j,p⟩:=i;omega};simp[zar]at f;by_cases j:k<(post a).length;{rw[wcx (by rw[za];omega)]at f;exact g s (t-1) i k x f}
  .rw[wcw (by rw[za];omega),za]at f;match u:k-(post a).length,f with
   |0,f=>simp at f;subst f;exact⟨s,by rw[show s+k+1=t from by omega];exact h,rfl⟩
   |q+1,f=>simp at f
 |opt a g=>
  intro s t h k x f;have i:=h.opt;have n:=h.bound;have v:(post a).length=t-1-s:=by{obtain⟨_,_,_,j,p⟩:=i;omega};simp[zar]at f;by_cases j:k<(post a).length;{rw[wcx (by rw[za];omega)]at f;exact g s (t-1) i k x f}
  .rw[wcw (by rw[za];omega),za]at f;match u:k-(post a).length,f with
   |0,f=>simp at f;subst f;exact⟨s,by rw[show s+k+1=t from by omega];exact h,rfl⟩
   |q+1,f=>simp at f
end
end Go.Proofs.YtigdmmgklieofaaGreat
namespace Go.Proofs.YtigdmmgklieofaaGreat.T
noncomputable section
open _root_.Go.Proofs.Tryz
set_option maxRecDepth 100000
set_option maxHeartbeats 8000000
set_option linter.unusedVariables false
set_option linter.unusedSimpArgs false
set_option linter.defProp false
open List (replicate range)
open Go Go.RowKit L
def qv(x:jh):Rx:=⟨x.1,x.2.1.l.getD 0 0,x.2.1.l.getD 1 0,x.2.1.l.getD 2 0,x.2.1.l.getD 3 0⟩
def jv5{c:Int}{n:Nat}(h:arK c=some n):ofK c=n:=by unfold arK at h;unfold ofK;grind
def jia{x:jh}(h:¬(x.1≠1/\x.2.1.l≠replicate 4 0))(a:x.1≠1):qv x=Qw x.1:=by have:=Classical.byContradiction λc=>h ⟨a,c⟩;unfold qv Qw;grind
def jdv:∀l d,zbu l d=0->zdj (l.map qv) (d:Int)=0
 |[],d,h=>by unfold zbu at h;by_cases e:d=1;{subst e;rfl};omega
 |x::l,d,h=>by unfold zbu at h;cases a:arK x.1 with|none=>{grind}|some n=>rw[a]at h;dsimp only at h;split at h;{omega};.split at h;{omega};.rename_i f j;have i:=jv5 a;have k:=jdv l _ h;rw[wda,zdj];have c:(qv x).kind=x.1:=rfl;rw[c,i,if_neg,if_neg U];{grind};.rintro(b|⟨b,g⟩);{omega};.rw[jia f b]at g;trivial
def jvn{l:Wam jh}(h:Y3 l=0):l.length<=512/\∃e,l.map qv=post e:=by have a:=V6 h;refine⟨a.2,?_⟩;unfold Y3 at h;rw[if_neg U]at h;exact(jtz _ (by unfold jfz;rw[if_neg (by have:=a.2;grind)];exact jdv l 0 h)).2
def zx(l:List jh):W6:=(l.filter λx=>decide (x.1=1)).map λx=>x.2.1
def zyo(l:Wam jh)(x:jh):zx (l++[x])=zx l++if x.1=1 then [x.2.1]else []:=by unfold zx;grind
def jcx(l:Wam jh):((l.map qv).filter λx=>x.kind == 1).length=(zx l).length:=by unfold zx;rw[List.filter_map,wc0,wc0];rfl
def jj5{l:Wam jh}{e:E}(h:l.map qv=post e):(zx l).length=jv e:=by rw[<- jcx,h,zpu,z43]
def jju(st:List E)(x:Rx):List E:=
 if x.kind=1 then .set x.s0 x.s1 x.s2 x.s3::st else if x.kind=2 then .empty::st else match st with
 |[]=>[]
 |b::r=>if x.kind=5 then .star b::r else if x.kind=6 then .plus b::r else if x.kind=7 then .opt b::r else match r with
  |[]=>[]
  |a::r=>if x.kind=3 then .cat a b::r else .alt a b::r
def z40(e:E):∀st,(post e).foldl jju st=e::st:=by induction e with|set=>{intro st;rfl}|empty=>{intro st;rfl}|cat a b c d=>{intro st;simp[post,web,c,d,jju,Qw]}|alt a b c d=>{intro st;simp[post,web,c,d,jju,Qw]}|star a f=>{intro st;simp[post,web,f,jju,Qw]}|plus a f=>{intro st;simp[post,web,f,jju,Qw]}|opt a f=>intro st;simp[post,web,f,jju,Qw]
def jq5{a b:E}(h:post a=post b):a=b:=by have c:=z40 a [];rw[h,z40 b []]at c;grind
open Classical in
def qm(l:List jh):E:=if h:∃e,l.map qv=post e then h.choose else .empty
def jbb{l:Wam jh}{e:E}(h:l.map qv=post e):qm l=e:=by
 have a:∃e,l.map qv=post e:=⟨e,h⟩
 unfold qm;rw[dif_pos a];exact jq5 (a.choose_spec.symm.trans h)
def zmg{l:Wam jh}(h:Y3 l=0):l.map qv=post (qm l):=by obtain⟨e,a⟩:=(jvn h).2;rw[jbb a];omega
def vd:List E->Nat
 |[]=>0
 |e::r=>jv e+vd r
def yv:∀a b,vd (a++b)=vd a+vd b
 |[],b=>by simp[vd]
 |e::a,b=>by simp[vd,yv a b];omega
def J5(e:E)(n:Int):qy:=((qj e n,vk e n,yh e,()),(jv e:Int),())
def Jz:List E->Int->List qy
 |[],_=>[]
 |e::r,n=>J5 e n::Jz r (n+jv e)
def zbs:∀a b n,Jz (a++b) n=Jz a n++Jz b (n+vd a)
 |[],b,n=>by simp[Jz,vd]
 |e::a,b,n=>by simp[weq,Jz,zbs a b,vd,wey];grind
def zde:∀a n,(Jz a n).length=a.length
 |[],n=>rfl
 |e::a,n=>by simp[Jz,zde a]
def zp3:List E->Int->Int->Int->Prop
 |[],_,_,_=>False
 |e::r,n,i,j=>za1 e n i j\/zp3 r (n+jv e) i j
def ze5:∀a b n i j,zp3 (a++b) n i j↔zp3 a n i j\/zp3 b (n+vd a) i j
 |[],b,n,i,j=>by simp[zp3,vd]
 |e::a,b,n,i,j=>by simp[weq,zp3,ze5 a b,vd,wey];grind
def zfc(e:E)(n i j:Int):zp3 [e] n i j↔za1 e n i j:=by simp[zp3]
def z8l:∀a n i j,zp3 a n i j->(n<=i/\i<n+vd a)/\n<=j/\j<n+vd a
 |[],n,i,j,h=>h.elim
 |e::a,n,i,j,h=>by simp[vd];rcases h with h|h;{have:=jfr e n i j h;omega};.have:=z8l a _ i j h;omega
def FolOk(fol:W4)(P:Int->Int->Prop):Prop:=∀(i:Nat)(l:W7),fol[i]?=some l->jx l/\∀j,j∈l↔P i j
def FolOk.iff{fol:W4}{P Q:Int->Int->Prop}(h:FolOk fol P)(b:∀i j,P i j↔Q i j):FolOk fol Q:=λi l a=>⟨(h i l a).1,λj=>((h i l a).2 j).trans (b i j)⟩
def zll(a:List E):List Rx:=a.flatMap post
def z5u(a b:Wam E):zll (a++b)=zll a++zll b:=by simp[zll]
def zsu(a:E):zll [a]=post a:=by simp[zll]
def zfa(e:E)(n m:Nat)(h:n+jv e<=m):RN m (qj e n):=⟨(V7 e n).1,λx a=>by have:=(V7 e n).2 x a;omega⟩
def zjx(e:E)(n m:Nat)(h:n+jv e<=m):RN m (vk e n):=⟨(zb5 e n).1,λx a=>by have:=(zb5 e n).2 x a;omega⟩
def jrt{u a b:W7}{m:Int}(g:jx u)(hm:∀x,x∈u↔x∈a\/x∈b)(e:zkt a)(f:zkt b)(c:∀x∈a,x<m)(d:∀x∈b,m<=x):u=a++b:=
 jbz g (zc0 e f c d) λx=>by rw[hm,wcu]
def z5y{u:W7}{a b:E}{n:Int}(d:jx u)(hm:∀x,x∈u↔x∈qj a n\/x∈qj b (n+jv a)):u=qj a n++qj b (n+jv a):=
 jrt d hm (V7 a n).1 (V7 b _).1 (λx c=>((V7 a n).2 x c).2) λx c=>((V7 b _).2 x c).1
def ja2{u:W7}{a b:E}{n:Int}(d:jx u)(hm:∀x,x∈u↔x∈vk a n\/x∈vk b (n+jv a)):u=vk a n++vk b (n+jv a):=
 jrt d hm (zb5 a n).1 (zb5 b _).1 (λx c=>((zb5 a n).2 x c).2) λx c=>((zb5 b _).2 x c).1
def zzq(e:E)(i:Int):W7:=((range (jv e)).map λ(b:Nat)=>(b:Int)).filter λb=>zja e 0 i b
def z5r(e:E)(i:Int):jx (zzq e i):=by unfold zzq;refine we2 List.filter_sublist ?_;rw[List.pairwise_map];exact List.pairwise_lt_range.imp λh=>U
def jcv(e:E)(i j:Int):j∈zzq e i↔za1 e 0 i j:=by simp[zzq,weo,wc6,wed];constructor;{rintro⟨_,h⟩;exact(jcf e _ _ _).1 h};.intro h;have:=(jfr e _ _ _ h).2;exact⟨⟨j.toNat,U,U⟩,(jcf e _ _ _).2 h⟩
def jt9{e:E}{i:Int}{l:W7}(a:jx l)(h:∀j,j∈l↔za1 e 0 i j):l=zzq e i:=jbz a (z5r e i) λj=>by rw[h,jcv]
def z8b(e:E)(i:Int):RN (jv e) (zzq e i):=⟨z5r e i,λx a=>by have:=(jfr e _ _ _ ((jcv e i x).1 a)).2;omega⟩
def zz4{n:Nat}{a b:W7}(o:n<=1000)(c:RN n a)(d:RN n b):Tn (λi=>Jd i a b) (λr=>RN n r/\∀x,x∈r↔x∈a\/x∈b):=by have l:=c.len;have m:=d.len;unfold Jd;refine wac _ (sm7 U) (wac _ (ye U U) ?_);have f:(ze1 (a++b)).length=(a++b).length:=zqp _;simp[wc1]at f;refine wac _ (sm7 X) (wac _ (sm7 U) (Tt.pure ?_));obtain⟨j,k⟩:=znu (ze1 (a++b)) (zkb _);have e:∀x,x∈Zt (ze1 (a++b))↔x∈a\/x∈b:=λx=>by{rw[k,z41,wcu]};refine⟨⟨j,λx g=>?_⟩,e⟩;rcases(e x).1 g with h|h;{exact c.b x h};.exact d.b x h
def z4n{ι:Type}{D:Fi ι}{φ:ι->Nat}(hφ:Big D φ){n:Nat}(hn:n<=512){β:Type}{Q:β->Prop}{p ls:W7}(S:RN n p)(Y:RN n ls)(v:Bool)(w:Int)(sets:W6)(y A:W7){fol:W4}(Z:fol.length=n){P:Int->Int->Prop}(J:FolOk fol P)(hP:∀i j,P i j->0<=j/\j<n)
  {K:ι->W7×W7×Int×Int×Bool×Int×W6×W4×W7×W7->Wal β}
  (hK:∀d,d.length=n->FolOk d (λi j=>P i j\/i∈ls/\j∈p)->Tt D (λi=>K i (p,ls,(ls.length:Int),(ls.length:Int),v,w,sets,d,y,A)) Q) :
  Tt D (λi=>jm (λ(a:W7×W7×Int×Int×Bool×Int×W6×W4×W7×W7)H=>ifB (decide (a.2.2.2.1<a.2.2.1)) (ja (atL a.2.1 a.2.2.2.1) λq=>ja (jq a.2.2.2.2.2.2.2.1.length q) λI=>ja (atL a.2.2.2.2.2.2.2.1 I) λL=>ja (Jd (φ i) L a.1) λM=>ja (jq a.2.2.2.2.2.2.2.1.length q) λN=>ja (yi a.2.2.2.2.2.2.2.1 N M) λO=>ja (some (T.w64 (a.2.2.2.1+1))) λR=>H (a.1,a.2.1,a.2.2.1,R,a.2.2.2.2.1,a.2.2.2.2.2.1,a.2.2.2.2.2.2.1,O,a.2.2.2.2.2.2.2.2.1,a.2.2.2.2.2.2.2.2.2)) (K i a)) (φ i) (p,ls,(ls.length:Int),0,v,w,sets,fol,y,A)) Q:=by
 have a2:=Y.len;refine Tt.loop (λm s=>∃(k:Nat)(d:W4),k<=ls.length/\m=ls.length-k/\s=(p,ls,(ls.length:Int),(k:Int),v,w,sets,d,y,A)/\d.length=n/\FolOk d (λi j=>P i j\/i∈ls.take k/\j∈p)) ls.length hφ ⟨0,fol,U,Wab,rfl,Z,J.iff λi j=>V⟩ λm s⟨k,d,hk,hm,hs,h3,t⟩ nx C=>?_;subst hs;dsimp only;refine wab (λc=>?_) (λc=>?_)
 ·have c:=wcj c;have o:k<ls.length:=U;have hb:=Y.b _ (wcm o);obtain⟨z,hz⟩:∃z:Nat,ls[k]=(z:Int):=⟨(ls[k]).toNat,U⟩
  have f:z<d.length:=U;refine wac _ (atN o) ?_;have G:ls.take (k+1)=ls.take k++[(z:Int)]:=by rw[wcp o,hz]
  rw[hz];refine wac _ (vn f) (wac _ (atN f) ?_);obtain⟨q1,q2⟩:=t z _ (wch f);have F:RN n d[z]:=⟨q1,λx hx=>by
   rcases(q2 x).1 hx with h|h
   ·grind
   ·exact S.b _ h.2⟩
  refine Waj (zz4 U F S) hφ.fst λu⟨hu,a5⟩=>(wac _ (vn f) (wac _ (yw u f) (Tt.b1 ?_)))
  rw[wI U U];refine C (ls.length-(k+1)) _ U ⟨k+1,d.set z u,U,rfl,V,X,λi l g=>?_⟩;rw[G];by_cases e:z=i
  ·subst e;rw[wen f]at g;cases g;refine⟨hu.r,λj=>?_⟩
   grind
  ·rw[wer e]at g;obtain⟨q3,q4⟩:=t i l g
   grind
 ·have c:=wck c;have B:k=ls.length:=U;subst B;rw[wc7]at t;exact(hK d h3 t).fst
structure jmy(l:List jh)(k:Nat)(es:List E)(sets:List (Arr 4 Int))(fol:List (List Int)):Prop where
 fl:zll es=(l.take k).map qv
 se:sets=zx (l.take k)
 ls:sets.length=vd es
 lf:fol.length=vd es
 fo:FolOk fol (zp3 es 0)
 ch:zbu (l.drop k) es.length=0
 nk:vd es<=k
structure OvX(l:List jh)(k:Nat)(s:OvS)(b:Bool)(z:Int)(es:List E)(e:E)(sets:List (Arr 4 Int))(fol:List (List Int))(f1 l1:List Int):Prop where
 h1:s=(l,(l.length:Int),(k:Int),b,z,J5 e (vd es),sets,fol,f1,l1,Jz es 0)
 h2:jmy l (k+1) (es++[e]) sets fol
theorem jv6(l:List jh)(hc:Y3 l=0):Tn (λnn=>Yb nn l) (λr=>∃e fol,l.map qv=post e/\r=some (zx l,fol,J5 e 0,())/\fol.length=jv e/\FolOk fol (za1 e 0)):=by
 have hW:=(V6 hc).2;unfold Yb;refine Waj (jd6 l (by omega)) waa λe he=>?_;rw[hc]at he;subst he;refine wae rfl ?_;have h0:zbu l 0=0:=by unfold Y3 at hc;omega
 refine Tt.loop (λm s=>∃(k:Nat)(H:List E)(b:Bool)(z:Int)(sets:List (Arr 4 Int))(fol:List (List Int))(f1 l1:List Int),k<=l.length/\m=l.length-k/\s=(l,(l.length:Int),(k:Int),b,z,sets,fol,f1,l1,Jz H 0)/\jmy l k H sets fol/\H.length<=k) l.length waa ⟨0,[],_,_,_,_,_,_,by omega,by omega,rfl,⟨rfl,rfl,rfl,rfl,λi l h=>by simp at h,h0,by trivial⟩,by simp⟩ λm s⟨k,H,b,z,sets,fol,f1,l1,hk,hm,N,F,I⟩ nx e3=>?_;subst N;dsimp only;have f6:=zde H 0;refine wab (λc=>?_) (λc=>?_)
 ·have c:=wcj c;have a2:k<l.length:=by omega
  have g:=F.ch;have b6:=F.nk;have B:=F.ls;have A:=F.lf;rw[wcy a2]at g;have L:(l.take (k+1)).map qv=zll H++[qv l[k]]:=by rw[wcp a2,wc8,F.fl];rfl
  have G:zx (l.take (k+1))=sets++if(l[k]).1=1 then [(l[k]).2.1]else []:=by rw[wcp a2,zyo,F.se]
  refine wac _ (atN a2) ?_;generalize l[k]=x at g L G⊢;unfold zbu at g;cases w:arK x.1 with
  |none=>rw[w]at g;cases g
  |some a=>
  rw[w]at g;dsimp only at g;split at g
  ·cases g
  rename_i b4;split at g
  ·cases g
  rename_i P;refine Tt.J (λs=>∃b z es' e sets fol f1 l1,OvX l k s b z es' e sets fol f1 l1/\es'.length<=k) (λny e4=>?_) (λs⟨b,z,es',e,sets,fol,f1,l1,h,f0⟩=>?_)
  rotate_left
  ·obtain⟨he,h1⟩:=h;subst he;dsimp only;have f2:=zde es' 0;refine wac _ (ye (by grind) (by omega)) (Tt.b1 ?_);rw[wI (by omega) (by omega)];refine e3 (l.length-(k+1)) _ (by omega) ⟨k+1,es'++[e],b,z,sets,fol,f1,l1,by omega,rfl,?_,h1,by simp;omega⟩;rw[zbs];simp[Jz]
  ·have Q:∀{s:OvS}{b z es' e sets fol f1 l1},OvX l k s b z es' e sets fol f1 l1->es'.length<=k->Tt _ (λi=>ny i s) _:=λh h'=>e4 _ ⟨_,_,_,_,_,_,_,_,h,h'⟩;refine wab (λc=>?_) (λc1=>?_)
   ·have c:=wcj c;have d:a=0:=by rw[c]at w;cases w;rfl
    subst d;rw[if_pos c]at G;refine Tt.b1 (wac _ (ye (by grind) (by omega)) (wac _ (ye (by grind) (by omega)) ?_));refine Q (b:=b) (z:=z) (sets:=sets++[x.2.1]) (fol:=fol++[[]]) (f1:=f1) (l1:=l1) (es':=H) (e :=.set (x.2.1.l.getD 0 0) (x.2.1.l.getD 1 0) (x.2.1.l.getD 2 0) (x.2.1.l.getD 3 0)) ⟨by rw[B];simp[J5,qj,vk,yh,jv],⟨?_,G.symm,?_,?_,?_,?_,?_⟩⟩ I
    ·rw[L,z5u,zsu];simp[post,qv,c]
    ·rw[wc1,B,yv];rfl
    ·rw[wc1,A,yv];rfl
    ·intro i l hi;by_cases d8:i<fol.length
     ·rw[wcx d8]at hi;obtain⟨q1,q2⟩:=F.fo i l hi;exact⟨q1,λj=>by rw[q2,ze5,zfc];simp[za1]⟩
     ·rw[wcw (by omega)]at hi;obtain⟨hz,rfl⟩:i-fol.length=0/\[]=l:=by
       cases hq:i-fol.length with
       |zero=>rw[hq]at hi;simp at hi;exact⟨rfl,hi.symm⟩
       |succ q=>rw[hq]at hi;simp at hi
      refine⟨List.Pairwise.nil,λj=>?_⟩;rw[ze5,zfc];simp only[List.not_mem_nil,za1,or_false,false_iff];intro h;have:=z8l _ _ _ _ h;omega
    ·rw[wc1,wdd];exact g
    ·rw[yv];simp[vd,jv];omega
   have c1:=wck c1;rw[if_neg c1,wc2]at G;have d5:=jia b4 c1;rw[d5]at L;refine wab (λc=>?_) (λc2=>?_)
   ·have c:=wcj c;have d:a=0:=by rw[c]at w;cases w;rfl
    subst d;refine Q (b:=b) (z:=z) (sets:=sets) (fol:=fol) (f1:=f1) (l1:=l1) (es':=H) (e :=.empty) ⟨by rfl,⟨?_,G.symm,?_,?_,?_,?_,?_⟩⟩ I
    ·rw[L,z5u,zsu,c];rfl
    ·rw[B,yv];rfl
    ·rw[A,yv];rfl
    ·exact F.fo.iff λi j=>by rw[ze5,zfc];simp[za1]
    ·rw[wc1,wdd];exact g
    ·rw[yv];simp[vd,jv];omega
   have c2:=wck c2;have D:∀i j,zp3 H 0 i j->0<=j/\j<(vd H:Int):=λi j h=>by have:=z8l _ _ _ _ h;omega
   refine wab (λc=>?_) (λc3=>?_)
   ·have ck:=wcj c;have d:a=2:=by rw[ck]at w;cases w;rfl
    subst d;obtain⟨e1,o,rfl⟩:=zx8 (l:=H) (by omega);rw[wc1,wdd]at P I g;obtain⟨f,d,rfl⟩:=zx8 (l:=e1) (by omega);rw[wc1,wdd]at P I g;have R:vd (f++[d]++[o])=vd f+jv d+jv o:=by simp[yv,vd];omega
    have S:Jz (f++[d]++[o]) 0=Jz f 0++[J5 d (vd f)]++[J5 o ((vd f:Nat)+(jv d:Nat):Int)]:=by
     rw[zbs,zbs,yv];simp[Jz,vd]
    have a8:=zde f 0;rw[R]at B A b6 D;rw[S];refine wac _ (jou (by simp;omega)) (wac _ jrf (wac _ (jrc (by simp;omega)) ?_));refine wac _ (jou (by omega)) (wac _ jrf (wac _ (jrc (by omega)) ?_));have O:RN (vd f+jv d+jv o) (qj d (vd f)):=zfa _ _ _ (by omega);have M:RN (vd f+jv d+jv o) (vk d (vd f)):=zjx _ _ _ (by omega);have a1:RN (vd f+jv d+jv o) (qj o ((vd f:Nat)+(jv d:Nat):Int)):=by have:=zfa o (vd f+jv d) (vd f+jv d+jv o) (by omega);simpa using this
    have b2:RN (vd f+jv d+jv o) (vk o ((vd f:Nat)+(jv d:Nat):Int)):=by have:=zjx o (vd f+jv d) (vd f+jv d+jv o) (by omega);simpa using this
    refine z4n waa.fst (n:=vd f+jv d+jv o) (by omega) a1 M _ _ _ _ _ A F.fo (λi j h=>by have:=D i j h;omega) λp e1 b0=>?_;have b3:FolOk p (zp3 (f++[.cat d o]) 0):=b0.iff λi j=>by
     simp only[ze5,zfc,yv,vd,za1,wd8,wey,Int.zero_add];constructor
     ·rintro(((h|h)|h)|h)
      ·exact .inl h
      ·exact .inr (.inl h)
      ·exact .inr (.inr (.inl h))
      ·exact .inr (.inr (.inr h))
     ·rintro(h|h|h|h)
      ·exact .inl (.inl (.inl h))
      ·exact .inl (.inl (.inr h))
      ·exact .inl (.inr h)
      ·exact .inr h
    have hR:jmy l (k+1) (f++[.cat d o]) sets p:=⟨by rw[L,ck];simp[zll,post],G.symm,by rw[B,yv];simp[vd,jv];omega,by rw[e1,yv];simp[vd,jv];omega,b3,by rw[wc1,wdd];rw[show f.length+1+1-2+1=f.length+1 by omega]at g;exact g,by rw[yv];simp[vd,jv];omega⟩
    have ew:T.w64 ((jv d:Int)+(jv o:Int))=(jv d:Int)+(jv o:Int):=wI (by omega) (by omega);have e6:Tt _ (λi=>ny i (l,(l.length:Int),(k:Int),b,z,J5 (.cat d o) (vd f),sets,p,f1,l1,Jz f 0)) _:=Q ⟨rfl,hR⟩ (by omega);refine Tt.J (λs=>s=(b,z,sets,p,f1,l1,J5 d (vd f),J5 o ((vd f:Nat)+(jv d:Nat):Int),false,0,((qj d (vd f),vk o ((vd f:Nat)+(jv d:Nat):Int),yh d && yh o,()),((jv d:Int)+(jv o:Int)),()),[],[])) (λnz t=>?_) (λs N=>?_)
    ·dsimp only[J5];rw[ew];refine wab (λy=>t _ ?_) λy=>t _ ?_
     ·simp only[J5,y,wes]
     ·simp only[J5,y,Bool.false_and]
    ·subst N;refine Tt.J (λs=>s=(b,z,sets,p,f1,l1,J5 d (vd f),J5 o ((vd f:Nat)+(jv d:Nat):Int),false,0,((qj (.cat d o) (vd f),vk o ((vd f:Nat)+(jv d:Nat):Int),yh d && yh o,()),((jv d:Int)+(jv o:Int)),()),[],[])) (λnz t=>?_) (λs N=>?_)
     ·dsimp only[J5];refine wab (λy=>?_) λy=>t _ ?_
      ·refine Waj (zz4 (by omega) O a1) waa.fst λu⟨hu,Y⟩=>t _ ?_;rw[z5y hu.r Y];simp only[qj,y,if_true,J5]
      ·simp only[qj,y,J5];simp
     ·subst N;refine Tt.J (λs=>s=(b,z,sets,p,f1,l1,false,0,J5 (.cat d o) (vd f),[],[])) (λnz t=>?_) (λs N=>?_)
      ·dsimp only[J5];refine wab (λb5=>?_) λb5=>t _ ?_
       ·refine Waj (zz4 (by omega) M b2) waa.fst λu⟨hu,Y⟩=>t _ ?_;rw[ja2 hu.r Y];simp only[vk,b5,if_true,J5,yh,jv,wey]
       ·simp only[vk,b5,J5,yh,jv,wey];simp
      ·subst N;exact e6
   have c3:=wck c3;refine wab (λc=>?_) (λc4=>?_)
   ·have ck:=wcj c;have d:a=2:=by rw[ck]at w;cases w;rfl
    subst d;obtain⟨e1,o,rfl⟩:=zx8 (l:=H) (by omega);rw[wc1,wdd]at P I g;obtain⟨f,d,rfl⟩:=zx8 (l:=e1) (by omega);rw[wc1,wdd]at P I g;have R:vd (f++[d]++[o])=vd f+jv d+jv o:=by simp[yv,vd];omega
    have S:Jz (f++[d]++[o]) 0=Jz f 0++[J5 d (vd f)]++[J5 o ((vd f:Nat)+(jv d:Nat):Int)]:=by
     rw[zbs,zbs,yv];simp[Jz,vd]
    have a8:=zde f 0;rw[R]at B A b6 D;rw[S];refine wac _ (jou (by simp;omega)) (wac _ jrf (wac _ (jrc (by simp;omega)) ?_));refine wac _ (jou (by omega)) (wac _ jrf (wac _ (jrc (by omega)) ?_));have O:RN (vd f+jv d+jv o) (qj d (vd f)):=zfa _ _ _ (by omega);have M:RN (vd f+jv d+jv o) (vk d (vd f)):=zjx _ _ _ (by omega);have a1:RN (vd f+jv d+jv o) (qj o ((vd f:Nat)+(jv d:Nat):Int)):=by have:=zfa o (vd f+jv d) (vd f+jv d+jv o) (by omega);simpa using this
    have b2:RN (vd f+jv d+jv o) (vk o ((vd f:Nat)+(jv d:Nat):Int)):=by have:=zjx o (vd f+jv d) (vd f+jv d+jv o) (by omega);simpa using this
    have b3:FolOk fol (zp3 (f++[.alt d o]) 0):=F.fo.iff λi j=>by
     simp only[ze5,zfc,yv,vd,za1,wd8,wey,Int.zero_add];rw[or_assoc]
    have hR:jmy l (k+1) (f++[.alt d o]) sets fol:=⟨by rw[L,ck];simp[zll,post],G.symm,by rw[B,yv];simp[vd,jv];omega,by rw[A,yv];simp[vd,jv];omega,b3,by rw[wc1,wdd];rw[show f.length+1+1-2+1=f.length+1 by omega]at g;exact g,by rw[yv];simp[vd,jv];omega⟩
    have ew:T.w64 ((jv d:Int)+(jv o:Int))=(jv d:Int)+(jv o:Int):=wI (by omega) (by omega);refine Tt.J (λs=>s=(l,(l.length:Int),(k:Int),b,z,J5 (.alt d o) (vd f),sets,fol,f1,l1,Jz f 0)) (λnz t=>?_) (λs N=>?_)
    ·dsimp only[J5];refine Waj (zz4 (by omega) O a1) waa.fst λu⟨hu,Y⟩=>?_;refine Waj (zz4 (by omega) M b2) waa.fst λv⟨hv,e5⟩=>?_;rw[ew,z5y hu.r Y,ja2 hv.r e5];refine wab (λy=>t _ ?_) λy=>t _ ?_
     ·simp only[J5,qj,vk,yh,jv,y,wey,Bool.true_or]
     ·simp only[J5,qj,vk,yh,jv,y,wey,Bool.false_or]
    ·subst N;dsimp only;exact Q ⟨rfl,hR⟩ (by omega)
   have c4:=wck c4;have d:a=1/\(x.1=5\/x.1=6\/x.1=7):=by
    rw[arK,if_neg (by omega)]at w;split at w
    ·cases w;exact⟨rfl,by assumption⟩
    ·rw[if_neg (by omega)]at w;cases w
   obtain⟨rfl,b7⟩:=d;obtain⟨f,d,rfl⟩:=zx8 (l:=H) (by omega);rw[wc1,wdd]at P I g;have R:vd (f++[d])=vd f+jv d:=by simp[yv,vd]
   have S:Jz (f++[d]) 0=Jz f 0++[J5 d (vd f)]:=by
    rw[zbs];simp[Jz,vd]
   have a8:=zde f 0;rw[R]at B A b6 D;rw[S];have O:RN (vd f+jv d) (qj d (vd f)):=zfa _ _ _ (by omega);have M:RN (vd f+jv d) (vk d (vd f)):=zjx _ _ _ (by omega);refine wac _ (jou (by omega)) (wac _ jrf (wac _ (jrc (by omega)) ?_));obtain⟨Z,d7,C,a3,a4,c0⟩:∃Z,post Z=post d++[Qw x.1]/\jv Z=jv d/\(∀n,qj Z n=qj d n)/\(∀n,vk Z n=vk d n)/\(yh Z=(yh d ||decide (x.1≠6)))/\∀n i j,za1 Z n i j↔za1 d n i j\/(x.1≠7/\i∈vk d n/\j∈qj d n):=by
    rcases b7 with h|h|h
    ·exact⟨.star d,by rw[h];rfl,rfl,λ_=>rfl,λ_=>rfl,by simp[yh,h],λn i j=>by simp[za1,h]⟩
    ·exact⟨.plus d,by rw[h];rfl,rfl,λ_=>rfl,λ_=>rfl,by simp[yh,h],λn i j=>by simp[za1,h]⟩
    ·exact⟨.opt d,by rw[h];rfl,rfl,λ_=>rfl,λ_=>rfl,by simp[yh,h],λn i j=>by simp[za1,h]⟩
   obtain⟨a6,a5⟩:=c0;refine Tt.J (λs=>∃p,s=(l,(l.length:Int),(k:Int),b,z,x,J5 d (vd f),sets,p,f1,l1,Jz f 0)/\p.length=vd f+jv d/\FolOk p (zp3 (f++[Z]) 0)) (λnz t=>?_) (λs⟨p,N,e0,d4⟩=>?_)
   ·refine wab (λc7=>?_) λc7=>t _ ⟨_,rfl,A,F.fo.iff λi j=>?_⟩
    ·have c7:=wcj c7;refine z4n waa.fst (n:=vd f+jv d) (by omega) O M _ _ _ _ _ A F.fo (λi j h=>by have:=D i j h;omega) λp e1 b0=>t _ ⟨_,rfl,e1,b0.iff λi j=>?_⟩;simp only[ze5,zfc,Int.zero_add,a5];rw[or_assoc];simp[c7]
    ·have c7:=wck c7;have c7:x.1=7:=wea.1 c7;simp only[ze5,zfc,Int.zero_add,a5];simp[c7]
   ·subst N;have hR:jmy l (k+1) (f++[Z]) sets p:=⟨by rw[L];simp[zll,d7],G.symm,by rw[B,yv];simp[vd,C],by rw[e0,yv];simp[vd,C],d4,by rw[wc1,wdd];rw[show f.length+1-1+1=f.length+1 by omega]at g;exact g,by rw[yv];simp[vd,C];omega⟩
    refine Tt.J (λs=>s=(l,(l.length:Int),(k:Int),b,z,J5 Z (vd f),sets,p,f1,l1,Jz f 0)) (λnz t=>?_) (λs N=>?_)
    ·dsimp only[J5];refine wab (λy=>t _ ?_) λy=>t _ ?_
     ·simp only[J5,a3,a4,C,a6,y,Bool.true_or]
     ·simp only[J5,a3,a4,C,a6,y,Bool.false_or]
    ·subst N;dsimp only;exact Q ⟨rfl,hR⟩ (by omega)
 ·have c:=wck c;have d9:k=l.length:=by omega
  subst d9;have g:=F.ch;rw[wef]at g;unfold zbu at g;have h1:H.length=1:=by
   by_cases h:H.length=1
   ·exact h
   ·rw[if_neg h]at g;cases g
  match H,h1 with
  |[e],_=>
   have c5:=F.fl;rw[wc7,zsu]at c5;have c6:=F.se;rw[wc7]at c6;have A:=F.lf;refine wac _ (vn (k:=0) (by simp[Jz])) (wac _ (atN (k:=0) (by simp[Jz])) (Tt.pure ⟨e,fol,c5.symm,by rw[c6];rfl,by rw[A];simp[vd],F.fo.iff λi j=>zfc e 0 i j⟩))
def Z6{l:Wam jh}{e:E}{s t:Nat}(h:AtT (l.map qv) s e t):∃j,∃b,j+1=t/\(l[j]).1=zw e:=by have a:=h.bound;rw[wc0]at a;refine⟨t-1,U,U,?_⟩;have:=h.kind (t-1) X U;rw[List.getElem_map]at this;trivial
def jnz{ι:Type}{D:Fi ι}{φ:ι->Nat}(hφ:Big D φ){rec:ι->(Wam jh)×Int->Wal Int}{l:Wam jh}(t:l.length<=1000){j:Nat}(g:j<l.length){n:Nat}(e:arK (l[j]).1=some n)(P:Nat->Nat)(h0:P 0=j)(f:∀k,P k<=l.length)(b:∀k,k<n->Tt D (λi=>rec i (l,(P k:Int)-1)) (λr=>r=(P (k+1):Int))):Tt D (λi=>za2 (φ i) (rec i) l (j:Int)) (λr=>r=(P n:Int)):=by have p:=jgl e;unfold za2;refine Tt.J (λs=>s=(l,(j:Int),false)) (λq a=>?_) λs d=>?_;{refine Tt.b1 (wae (wc3 U) (a _ ?_));grind};.subst d;dsimp only;refine wae rfl (Tt.at g (Waj (jnt _) hφ λr b=>?_));rw[e]at b;dsimp only at b;subst b;refine Tt.loop (λm s=>∃k,k<=n/\m=n-k/\s=(l,(n:Int),(P k:Int),(k:Int))) n hφ ⟨0,U,Wab,X⟩ λm s⟨k,o,u,d⟩ q a=>?_;subst d;dsimp only;refine wad (λc=>?_) λc=>?_;{have v:=f k;rw[wI U U];refine Tt.bind (b k U).fst λr b=>?_;subst b;refine wae (wc3 U) (wai ?_);exact a (n-(k+1)) _ U ⟨k+1,U,rfl,rfl⟩};.have:k=n:=U;subst this;exact wae (wc3 U) (Tt.pure rfl)
def jmp(n m:Nat)(l:Wam jh)(z:Int):vj n (m+1) (l,z)=za2 n (vj n m) l z:=rfl
def jlg(l:Wam jh)(C:l.length<=1000)(e:E):∀s t,AtT (l.map qv) s e t->Tt Fi.two (λi=>vj i.1 i.2 (l,(t:Int)-1)) (λr=>r=(s:Int)):=by have go:∀{e:E}{s t n:Nat}(h:AtT (l.map qv) s e t)(f:arK (zw e)=some n)(P:Nat->Nat),P 0+1=t->P n=s->(∀k,P k<=l.length)->(∀k,k<n->Tt Fi.two (λi=>vj i.1 i.2 (l,(P k:Int)-1)) (λr=>r=(P (k+1):Int)))->Tt Fi.two (λi=>vj i.1 i.2 (l,(t:Int)-1)) (λr=>r=(s:Int)):=λ{e s t n}h f P h0 p q y=>by{obtain⟨j,A,B,u⟩:=Z6 h;obtain rfl:j=P 0:=U;have g:=jnz Big.two C A (by rw[u];exact f) P rfl q y;rw[p]at g;have z:(t:Int)-1=(P 0:Int):=U;rw[z];exact zla g λn m=>jmp n m l _};have p:∀{a e:E}{s t:Nat},AtT (l.map qv) s e t->arK (zw e)=some 1->AtT (l.map qv) s a (t-1)->(∀s t,AtT (l.map qv) s a t->Tt Fi.two (λi=>vj i.1 i.2 (l,(t:Int)-1)) (λr=>r=(s:Int)))->Tt Fi.two (λi=>vj i.1 i.2 (l,(t:Int)-1)) (λr=>r=(s:Int)):=λ{a e s t}h f v o=>by{have g:=h.bound;have w:=v.bound;rw[wc0]at g w;refine go h f (λk=>if k=0 then t-1 else s) W V (λk=>by(try dsimp only);split<;>omega) λk u=>?_;obtain rfl:k=0:=U;exact o s (t-1) v};have q:∀{a b e:E}{s t:Nat},AtT (l.map qv) s e t->arK (zw e)=some 2->(∃m,AtT (l.map qv) s a m/\AtT (l.map qv) m b (t-1)/\s<m/\m<t-1)->(∀s t,AtT (l.map qv) s a t->Tt Fi.two (λi=>vj i.1 i.2 (l,(t:Int)-1)) (λr=>r=(s:Int)))->(∀s t,AtT (l.map qv) s b t->Tt Fi.two (λi=>vj i.1 i.2 (l,(t:Int)-1)) (λr=>r=(s:Int)))->Tt Fi.two (λi=>vj i.1 i.2 (l,(t:Int)-1)) (λr=>r=(s:Int)):=λ{a b e s t}h f⟨m,v,g,F,D⟩ c d=>by{have x:=h.bound;rw[wc0]at x;refine go h f (λk=>if k=0 then t-1 else if k=1 then m else s) X V (λk=>X) λk u=>?_;have:k=0\/k=1:=U;rcases this with rfl|rfl;{grind};grind};have h0:∀{e:E}{s t:Nat},AtT (l.map qv) s e t->arK (zw e)=some 0->(post e).length=1->Tt Fi.two (λi=>vj i.1 i.2 (l,(t:Int)-1)) (λr=>r=(s:Int)):=λ{e s t}h f p=>by{have g:=h.bound;rw[wc0]at g;have:t=s+1:=by{obtain⟨_,_,_,_,y⟩:=h;omega};exact go h f (λk=>s) this.symm rfl (λk=>U) λk u=>U};induction e with|set=>{exact λs t h=>h0 h rfl rfl}|empty=>{exact λs t h=>h0 h rfl rfl}|cat a b c d=>{exact λs t h=>q h rfl h.cat c d}|alt a b c d=>{exact λs t h=>q h rfl h.alt c d}|star a o=>{exact λs t h=>p h rfl h.star o}|plus a o=>{exact λs t h=>p h rfl h.plus o}|opt a o=>exact λs t h=>p h rfl h.opt o
def zh2(l:Wam jh)(a:l.length<=1000){e:E}{s t:Nat}(h:AtT (l.map qv) s e t):Tn (λb=>Yz b l ((t:Int)-1)) (λr=>r=(s:Int)):=zmk (jlg l a e s t h)
def jl6(l:Wam jh)(o:l.length<=1000)(j:Nat)(i:j<=l.length):Tn (λh=>zcc h l (j:Int)) (λr=>r=(Go.Proofs.YtigdmmgklieofaaGreat.numL (l.map qv) j:Int)):=by unfold zcc;refine Tt.loop (λm s=>∃k,k<=j/\m=j-k/\s=(l,(j:Int),(Go.Proofs.YtigdmmgklieofaaGreat.numL (l.map qv) k:Int),(k:Int))) j waa ⟨0,U,Wab,by simp[Go.Proofs.YtigdmmgklieofaaGreat.numL]⟩ λm s⟨k,n,p,a⟩ q e=>?_;subst a;dsimp only;refine wad (λc=>?_) λc=>Tt.pure ?_;{have d:k<l.length:=U;have a:=jk2 (l.map qv) k X;rw[List.getElem_map,show(qv l[k]).kind=(l[k]).1 from rfl]at a;have g:=jh1 (l.map qv) k;refine Tt.J (λs=>s=(l,(j:Int),(Go.Proofs.YtigdmmgklieofaaGreat.numL (l.map qv) (k+1):Int),(k:Int))) (λt b=>?_) λs a=>?_;{refine Tt.at d (wad (λf=>Tt.b1 (b _ ?_)) λf=>b _ ?_);{rw[a,if_pos f,wI U U];rfl};grind};.subst a;dsimp only;refine wai ?_;exact e (j-(k+1)) _ U ⟨k+1,U,rfl,rfl⟩};grind
def je5(n m:Nat)(l:Wam jh)(z:Int):Jx n (m+1) (l,z)=Jc n (Jx n m) l z:=rfl
theorem jpt(l:List jh)(S:l.length<=1000)(e:E):∀s t,AtT (l.map qv) s e t->Tt Fi.two (λi=>Jx i.1 i.2 (l,(t:Int)-1)) (λr=>r=yh e):=by
 have go:∀{e:E}{s t:Nat}(h:AtT (l.map qv) s e t),Tt Fi.two (λi=>Jc i.1 (Jx i.1 i.2) l ((t:Int)-1)) (λr=>r=yh e)->Tt Fi.two (λi=>Jx i.1 i.2 (l,(t:Int)-1)) (λr=>r=yh e):=λh u=>zla u λn m=>je5 n m l _;have G:∀{k:Int}{z:Int}{β:Type}{Q:β->Prop}{q:Nat×Nat->(List jh)×Int×Int×Bool->Option β},(Tt Fi.two (λi=>q i (l,z,k,decide (k=2\/k=5\/k=7))) Q)->Tt Fi.two (λi=>ja (some (decide (k=2))) λP=>ifB P (q i (l,z,k,true)) (ifB (decide (k=5)) (q i (l,z,k,true)) (q i (l,z,k,decide (k=7))))) Q:=λ{k z β Q q}h=>by
  refine Tt.b1 (wad (λc=>?_) λc=>wad (λR=>?_) λR=>?_)
  ·rw[wdh (.inl c)]at h;exact h
  ·rw[wdh (.inr (.inl R))]at h;exact h
  ·grind
 induction e with
 |set=>
  intro s t h;refine go h ?_;obtain⟨j,g,o,p⟩:=Z6 h;unfold Jc;rw[show(t:Int)-1=(j:Int) by omega];refine Tt.at g ?_;rw[p];exact wah rfl (Tt.pure rfl)
 |empty=>
  intro s t h;refine go h ?_;obtain⟨j,g,o,p⟩:=Z6 h;unfold Jc;rw[show(t:Int)-1=(j:Int) by omega];refine Tt.at g ?_;rw[p];refine wae rfl (Tt.J (λs=>s.2.2.2=true) (λq d=>G (d _ rfl)) λs f=>wah f (Tt.pure rfl))
 |star a O=>
  intro s t h;refine go h ?_;obtain⟨j,g,o,p⟩:=Z6 h;unfold Jc;rw[show(t:Int)-1=(j:Int) by omega];refine Tt.at g ?_;rw[p];refine wae rfl (Tt.J (λs=>s.2.2.2=true) (λq d=>G (d _ rfl)) λs f=>wah f (Tt.pure rfl))
 |opt a O=>
  intro s t h;refine go h ?_;obtain⟨j,g,o,p⟩:=Z6 h;unfold Jc;rw[show(t:Int)-1=(j:Int) by omega];refine Tt.at g ?_;rw[p];refine wae rfl (Tt.J (λs=>s.2.2.2=true) (λq d=>G (d _ rfl)) λs f=>wah f (Tt.pure rfl))
 |plus a O=>
  intro s t h;refine go h ?_;obtain⟨j,g,o,p⟩:=Z6 h;have v:=h.plus;have u:=v.bound;rw[wc0]at u;have Y:=O s (t-1) v;unfold Jc;rw[show(t:Int)-1=(j:Int) by omega];refine Tt.at g ?_;rw[p];refine wae rfl (Tt.J (λs=>s=(l,(j:Int),6,false)) (λq d=>G (d _ rfl)) λs f=>?_);subst f;dsimp only;rw[show T.w64 ((j:Int)-1)=((t-1:Nat):Int)-1 by rw[wI (by omega) (by omega)];omega];exact wae rfl (Tt.bind Y λr H=>wah rfl (Tt.pure H))
 |cat a b D F=>
  intro s t h;refine go h ?_;obtain⟨j,g,o,p⟩:=Z6 h;obtain⟨m,v,u,N,M⟩:=h.cat;have x:=u.bound;have w:=v.bound;rw[wc0]at x w;have B:=D s m v;have C:=F m (t-1) u;unfold Jc;rw[show(t:Int)-1=(j:Int) by omega];refine Tt.at g ?_;rw[p];refine wae rfl (Tt.J (λs=>s=(l,(j:Int),3,false)) (λq d=>G (d _ rfl)) λs f=>?_);subst f;dsimp only;rw[show T.w64 ((j:Int)-1)=((t-1:Nat):Int)-1 by rw[wI (by omega) (by omega)];omega];refine wae rfl (Tt.bind C λL A=>wae rfl (Waj (zh2 l S u) Big.two λr H=>?_));subst H;rw[wI (by omega) (by omega)];refine Tt.bind B λI y=>wah rfl (Tt.J (λs=>s=(I && L)) (λq d=>wab (λc=>d _ (by grind)) λc=>d _ (by grind)) λs f=>Tt.pure ?_);rw[f,y,A];rfl
 |alt a b D F=>
  intro s t h;refine go h ?_;obtain⟨j,g,o,p⟩:=Z6 h;obtain⟨m,v,u,N,M⟩:=h.alt;have x:=u.bound;have w:=v.bound;rw[wc0]at x w;have B:=D s m v;have C:=F m (t-1) u;unfold Jc;rw[show(t:Int)-1=(j:Int) by omega];refine Tt.at g ?_;rw[p];refine wae rfl (Tt.J (λs=>s=(l,(j:Int),4,false)) (λq d=>G (d _ rfl)) λs f=>?_);subst f;dsimp only;rw[show T.w64 ((j:Int)-1)=((t-1:Nat):Int)-1 by rw[wI (by omega) (by omega)];omega];refine wae rfl (Tt.bind C λL A=>wae rfl (Waj (zh2 l S u) Big.two λr H=>?_));subst H;rw[wI (by omega) (by omega)];refine Tt.bind B λI y=>wae rfl (Tt.J (λs=>s=(I ||L)) (λq d=>wab (λc=>d _ (by grind)) λc=>d _ (by grind)) λs f=>Tt.pure ?_);rw[f,y,A];rfl
def zzb(l:Wam jh)(a:l.length<=1000){e:E}{s t:Nat}(h:AtT (l.map qv) s e t):Tn (λb=>zjy b l ((t:Int)-1)) (λr=>r=yh e):=zmk (jpt l a e s t h)
def zag(e:E)(n:Int)(last:Bool):W7:=match last with
 |true=>vk e n
 |false=>qj e n
def jdq{l:W7}{n m:Nat}(h:jx l)(a:∀x∈l,(n:Int)<=x/\x<n+m)(hm:n+m<=1000):l.length<=1000:=(RN.len ⟨h,λx b=>X⟩)
def zmw(e:E)(n:Nat)(last:Bool)(h:n+jv e<=1000):(zag e n last).length<=1000:=by cases last;{exact jdq (V7 e n).1 (V7 e n).2 h};.exact jdq (zb5 e n).1 (zb5 e n).2 h
def jgr(n m:Nat)(l:Wam jh)(z:Int)(b:Bool):vw n (m+1) (l,z,b)=Vd n (vw n m) l z b:=rfl
def zt4{l:Wam jh}{e:E}{s t:Nat}(h:AtT (l.map qv) s e t):Go.Proofs.YtigdmmgklieofaaGreat.numL (l.map qv) s+jv e<=l.length:=by have a:=h.num;have b:=jh1 (l.map qv) t;have c:=h.bound;grind
theorem jnx(l:List jh)(Y:l.length<=1000)(last:Bool)(e:E):∀s t:Nat,AtT (l.map qv) s e t->Tt Fi.two (λi=>vw i.1 i.2 (l,(t:Int)-1,last)) (λr=>r=zag e (Go.Proofs.YtigdmmgklieofaaGreat.numL (l.map qv) s) last):=by
 have go:∀{e:E}{s t:Nat}(h:AtT (l.map qv) s e t),Tt Fi.two (λi=>Vd i.1 (vw i.1 i.2) l ((t:Int)-1) last) (λr=>r=zag e (Go.Proofs.YtigdmmgklieofaaGreat.numL (l.map qv) s) last)->Tt Fi.two (λi=>vw i.1 i.2 (l,(t:Int)-1,last)) (λr=>r=zag e (Go.Proofs.YtigdmmgklieofaaGreat.numL (l.map qv) s) last):=λh d=>zla d λn m=>jgr n m l _ _;have Z:∀{a e:E}{s t:Nat},AtT (l.map qv) s e t->zw e=5\/zw e=6\/zw e=7->AtT (l.map qv) s a (t-1)->zag e (Go.Proofs.YtigdmmgklieofaaGreat.numL (l.map qv) s) last=zag a (Go.Proofs.YtigdmmgklieofaaGreat.numL (l.map qv) s) last->(∀s t:Nat,AtT (l.map qv) s a t->Tt Fi.two (λi=>vw i.1 i.2 (l,(t:Int)-1,last)) (λr=>r=zag a (Go.Proofs.YtigdmmgklieofaaGreat.numL (l.map qv) s) last))->Tt Fi.two (λi=>vw i.1 i.2 (l,(t:Int)-1,last)) (λr=>r=zag e (Go.Proofs.YtigdmmgklieofaaGreat.numL (l.map qv) s) last):=λ{a e s t}h u w p I=>by
  refine go h ?_;obtain⟨j,C,D,F⟩:=Z6 h;have d:=w.bound;rw[wc0]at d;have H:=I s (t-1) w;unfold Vd;rw[show(t:Int)-1=(j:Int) by omega];refine wac _ (atN C) ?_;rw[F];refine wae (wc3 (by omega)) (wae (wc3 (by omega)) ?_);rw[show T.w64 ((j:Int)-1)=((t-1:Nat):Int)-1 by rw[wI (by omega) (by omega)];omega];refine Tt.bind H λr Q=>Tt.J (λs=>s.2.2.2.2.1=true/\s.2.2.2.2.2=r) (λnx f=>Tt.b1 (wah (wdh (by omega)) (f _ ⟨wdh (by omega),rfl⟩))) λs x=>wah x.1 (Tt.pure ?_);rw[x.2,Q,p]
 have g:∀{a b e:E}{s t:Nat}(c:Bool),AtT (l.map qv) s e t->zw e=(match c with|true=>3|false=>4)->(∃m,AtT (l.map qv) s a m/\AtT (l.map qv) m b (t-1)/\s<m/\m<t-1)->(∀n,zag e n last=(match last with|true=>(if c && !yh b then []else zag a n last)++zag b (n+jv a) last|false=>zag a n last++(if c && !yh a then []else zag b (n+jv a) last)))->(∀s t:Nat,AtT (l.map qv) s a t->Tt Fi.two (λi=>vw i.1 i.2 (l,(t:Int)-1,last)) (λr=>r=zag a (Go.Proofs.YtigdmmgklieofaaGreat.numL (l.map qv) s) last))->(∀s t:Nat,AtT (l.map qv) s b t->Tt Fi.two (λi=>vw i.1 i.2 (l,(t:Int)-1,last)) (λr=>r=zag b (Go.Proofs.YtigdmmgklieofaaGreat.numL (l.map qv) s) last))->Tt Fi.two (λi=>vw i.1 i.2 (l,(t:Int)-1,last)) (λr=>r=zag e (Go.Proofs.YtigdmmgklieofaaGreat.numL (l.map qv) s) last):=λ{a b e s t}c h M⟨m,w,d,b3,b0⟩ p k o=>by
  refine go h ?_;obtain⟨j,C,D,F⟩:=Z6 h;have a1:=d.bound;have a0:=w.bound;rw[wc0]at a1 a0;have P:=k s m w;have v:=o m (t-1) d;have O:=w.num;have b2:=zt4 w;have a4:=zt4 d;rw[O]at v a4;have a3:=zmw a (Go.Proofs.YtigdmmgklieofaaGreat.numL (l.map qv) s) last (by omega);have N:=zmw b (Go.Proofs.YtigdmmgklieofaaGreat.numL (l.map qv) s+jv a) last (by omega);have p:=p (Go.Proofs.YtigdmmgklieofaaGreat.numL (l.map qv) s);rw[wey]at v N;generalize zag a (Go.Proofs.YtigdmmgklieofaaGreat.numL (l.map qv) s) last=A at p P a3;generalize zag b ((Go.Proofs.YtigdmmgklieofaaGreat.numL (l.map qv) s:Int)+jv a) last=B at p v N;generalize zag e (Go.Proofs.YtigdmmgklieofaaGreat.numL (l.map qv) s) last=R at p⊢;unfold Vd;rw[show(t:Int)-1=(j:Int) by omega];refine wac _ (atN C) ?_;rw[F];have L:zw e=3\/zw e=4:=by rw[M];cases c<;>simp
  have u:decide (zw e=3)=c:=by rw[M];cases c<;>rfl
  generalize zw e=K at L u;refine wae (wc3 (by omega)) (wae (wc3 (by omega)) ?_);have ew:T.w64 ((j:Int)-1)=((t-1:Nat):Int)-1:=by rw[wI (by omega) (by omega)];omega
  rw[ew];refine Tt.bind v λr Q=>?_;subst Q;refine Tt.J (λs=>s=(l,(j:Int),last,K,false,r)) (λnx f=>Tt.b1 (wab (λh=>f _ ?_) λh=>f _ rfl)) λs x=>?_
  ·have h:=wcj h;rw[wc3 (by omega)]
  subst x;dsimp only;rw[ew];refine wae rfl (Waj (zh2 l Y d) Big.two λq H=>Tt.b1 ?_);subst H;rw[wI (by omega) (by omega)];refine Tt.bind P λra a5=>?_;subst a5;refine Tt.J (λs=>∃z,s=(l,last,K,(m:Int)-1,z,r,ra)/\z=(c && last && !yh b)) (λnx f=>Tt.b1 ?_) λs⟨z,x,hz⟩=>?_
  ·rw[u];refine wab (λh=>wab (λg=>?_) λg=>f _ ⟨_,rfl,by rw[g];simp⟩) λh=>f _ ⟨_,rfl,by rw[h];rfl⟩;exact Waj (zzb l Y d) Big.two λq H=>f _ ⟨_,rfl,by rw[h,g,H];rfl⟩
  ·subst x;dsimp only;refine wab (λh=>Tt.pure ?_) λh=>?_
   ·rw[h]at hz;rw[p];cases last
    ·simp at hz
    ·cases c<;>cases d:yh b<;>simp[d]at hz⊢
   ·refine Tt.J (λs=>∃y,s=(y,r,ra)/\y=(c && !last && !yh a)) (λny G=>Tt.b1 ?_) λs⟨y,x,S⟩=>?_
    ·rw[u];refine wab (λh=>wab (λg=>?_) λg=>G _ ⟨_,rfl,by rw[h];cases last<;>simp_all⟩) λh=>G _ ⟨_,rfl,by rw[h];rfl⟩;exact Waj (zzb l Y w) Big.two λq H=>G _ ⟨_,rfl,by rw[h,H];cases last<;>simp_all⟩
    ·subst x;dsimp only;refine wab (λg=>Tt.pure ?_) λg=>wac _ (ye (by omega) (by omega)) (Tt.pure ?_)
     ·rw[g]at S;rw[p];cases last
      ·cases c<;>cases d:yh a<;>simp[d]at S⊢
      ·cases c<;>simp at S
     ·rw[h]at hz;rw[g]at S;rw[p];cases last
      ·cases c<;>cases d:yh a<;>simp[d]at S⊢
      ·cases c<;>cases d:yh b<;>simp[d]at hz⊢
 induction e with
 |set=>
  intro s t h;refine go h ?_;obtain⟨j,C,D,F⟩:=Z6 h;have a2:j=s:=by obtain⟨_,_,_,_,h3⟩:=h;simp[post]at h3;omega
  unfold Vd;rw[show(t:Int)-1=(j:Int) by omega];refine wac _ (atN C) ?_;rw[F];refine wah rfl (Waj (jl6 l Y j (by omega)) Big.two λr Q=>Tt.pure ?_);subst Q;rw[a2];cases last<;>rfl
 |empty=>
  intro s t h;refine go h ?_;obtain⟨j,C,D,F⟩:=Z6 h;unfold Vd;rw[show(t:Int)-1=(j:Int) by omega];refine wac _ (atN C) ?_;rw[F];refine wae rfl (wah rfl (Tt.pure ?_));cases last<;>rfl
 |cat a b k o=>exact λs t h=>g true h rfl h.cat (λn=>by cases last<;>simp[zag,qj,vk]<;>split<;>simp_all) k o
 |alt a b k o=>exact λs t h=>g false h rfl h.alt (λn=>by cases last<;>simp[zag,qj,vk]) k o
 |star a I=>exact λs t h=>Z h (.inl rfl) h.star (by cases last<;>rfl) I
 |plus a I=>exact λs t h=>Z h (.inr (.inl rfl)) h.plus (by cases last<;>rfl) I
 |opt a I=>exact λs t h=>Z h (.inr (.inr rfl)) h.opt (by cases last<;>rfl) I
def zjp(l:Wam jh)(a:l.length<=1000){e:E}{s t:Nat}(h:AtT (l.map qv) s e t)(last:Bool):Tn (λb=>vu b l ((t:Int)-1) last) (λr=>r=zag e (Go.Proofs.YtigdmmgklieofaaGreat.numL (l.map qv) s) last):=zmk (jnx l a last e s t h)
def zun(l:W7)(x:Int)(i:l.length<=1000000):Tn (λg=>yb g l x) (λr=>r=decide (x∈l)):=by unfold yb;refine Tt.loop (λm s=>∃k,k<=l.length/\m=l.length-k/\s=(l,x,(k:Int))/\(x∈l↔x∈l.drop k)) l.length waa ⟨0,U,Wab,rfl,V⟩ λm s⟨k,h,j,f,e⟩ n d=>?_;subst f;dsimp only;refine wab (λc=>?_) λc=>Tt.pure ?_;{have c:=wcj c;have a:k<l.length:=U;rw[wcy a]at e;refine wac _ (atN a) (wab (λb=>Tt.pure ?_) λb=>Tt.b1 ?_);{grind};.have b:=wck b;rw[wI U U];refine d (l.length-(k+1)) _ U ⟨k+1,U,rfl,rfl,?_⟩;grind};grind
def jq0{α:Type}{l:Wam α}{p:α->Bool}{k:Nat}(a:k<l.length):(l.take (k+1)).any p=((l.take k).any p ||p l[k]):=by rw[wcp a,List.any_append];simp
def je6(l:Wam jh)(hl:l.length<=1000){e:E}(he:l.map qv=post e)(a b:Int):Tn (λnn=>zbh nn l a b) (λr=>r=zja e 0 a b):=by
 have d2:(zar e 0).length=l.length:=by{rw[za,<- he,wc0]};have hw:AtT (l.map qv) 0 e l.length:=by{have:=wbi e;grind};have c9:Go.Proofs.YtigdmmgklieofaaGreat.numL (l.map qv) 0=0:=Wab;unfold zbh;refine Tt.loop (λm s=>∃k,k<=l.length/\m=l.length-k/\s=(l,a,b,(k:Int))/\(((zar e 0).take k).any λx=>zac x.1 x.2 a b)=false) l.length waa ⟨0,U,Wab,rfl,V⟩ λm s⟨k,hk,hm,B,hf⟩ nx d1=>?_;subst B;dsimp only;refine wab (λc=>?_) λc=>Tt.pure ?_;rotate_left
 {have c:=wck c;have:k=l.length:=U;rw[this,<- d2,wc7]at hf;exact hf.symm};have c:=wcj c;have c8:k<l.length:=U;have H:k<(zar e 0).length:=U;have F:=jq0 (p:=λx=>zac x.1 x.2 a b) H;rw[hf,Bool.false_or]at F;have G:zac ((zar e 0)[k]).1 ((zar e 0)[k]).2 a b=true->true=zja e 0 a b:=λh=>by{symm;unfold zja;rw[List.any_eq_true];exact⟨_,wcm H,h⟩};obtain⟨x,hx⟩:∃x,(zar e 0)[k]=x:=⟨_,rfl⟩
 obtain⟨O,C,b3⟩:=jvq (l.map qv) e 0 l.length hw k x (by rw[c9,<- hx];exact wch H);rw[wd1]at C;rw[hx]at F G;obtain⟨f,n⟩:=x;simp only at C b3 F G;obtain⟨j,hj,e2,c6⟩:=Z6 C;obtain rfl:j=k:=U;subst b3;have d0:zac f (Go.Proofs.YtigdmmgklieofaaGreat.numL (l.map qv) O) a b=false->(((zar e 0).take (j+1)).any λx=>zac x.1 x.2 a b)=false:=λh=>by{rwa [F]};refine Tt.J (λs=>s=(l,a,b,(j:Int))/\zac f (Go.Proofs.YtigdmmgklieofaaGreat.numL (l.map qv) O) a b=false) (λny Z=>?_) λs⟨B,S⟩=>?_;rotate_left
 {subst B;dsimp only;refine Tt.b1 ?_;rw[wI U U];exact d1 (l.length-(j+1)) _ U ⟨j+1,U,rfl,rfl,d0 S⟩};refine wac _ (atN c8) ?_;rw[c6];have two:∀{ι:Type}{D:Fi ι}{φ:ι->Nat},Big D φ->∀{p q:E}{s1 t1 s2 t2:Nat}{β:Type}{Q:β->Prop}{K:ι->Bool->Wal β},AtT (l.map qv) s1 p t1->AtT (l.map qv) s2 q t2->∀{u v:Int},u=(t1:Int)-1->v=(t2:Int)-1->(Tt D (λi=>K i (decide (a∈vk p (Go.Proofs.YtigdmmgklieofaaGreat.numL (l.map qv) s1)) && decide (b∈qj q (Go.Proofs.YtigdmmgklieofaaGreat.numL (l.map qv) s2)))) Q)->Tt D (λi=>ja (vu (φ i) l u true) λx=>ja (yb (φ i) x a) λy=>ifB y (ja (vu (φ i) l v false) λz=>ja (yb (φ i) z b) λw=>K i w) (K i false)) Q:=λ{ι D φ}hφ{p q s1 t1 s2 t2 β Q K}P hq{u v}hu hv hK=>by{subst hu hv;have n1:=zt4 P;have n2:=zt4 hq;have l1:=zmw p (Go.Proofs.YtigdmmgklieofaaGreat.numL (l.map qv) s1) true U;have l2:=zmw q (Go.Proofs.YtigdmmgklieofaaGreat.numL (l.map qv) s2) false U;refine Waj (zjp l hl P true) hφ λx hx=>?_;subst hx;refine Waj (zun _ a U) hφ λy hy=>?_;subst hy;refine wab (λY=>?_) λY=>?_;{refine Waj (zjp l hl hq false) hφ λx hx=>?_;subst hx;refine Waj (zun _ b U) hφ λy hy=>?_;subst hy;have Y:decide (a∈vk p (Go.Proofs.YtigdmmgklieofaaGreat.numL (l.map qv) s1))=true:=Y;rw[Y,wes]at hK;exact hK};.have Y:decide (a∈vk p (Go.Proofs.YtigdmmgklieofaaGreat.numL (l.map qv) s1))=false:=Y;rw[Y,Bool.false_and]at hK;exact hK};have c3:=C.bound;rw[wc0]at c3;have ew:T.w64 ((j:Int)-1)=((j+1-1:Nat):Int)-1:=by{rw[wI U U];omega};have b5:∀{p:E},AtT (l.map qv) O p (j+1-1)->(zac f (Go.Proofs.YtigdmmgklieofaaGreat.numL (l.map qv) O) a b=(decide (a∈vk p (Go.Proofs.YtigdmmgklieofaaGreat.numL (l.map qv) O)) && decide (b∈qj p (Go.Proofs.YtigdmmgklieofaaGreat.numL (l.map qv) O))))->zw f=5\/zw f=6->Tt wa1.mul (λi=>J (λ(g:(Wam jh)×Int×Int×Int×Int)=>ifB (decide (g.2.2.2.2=3)) (ja (Yz i.1 g.1 (w64 (g.2.2.2.1-1))) λx9=>J (λ(t:(Wam jh)×Int×Int×Int×Bool)=>ifB t.2.2.2.2 (some true) (ny i (t.1,t.2.1,t.2.2.1,t.2.2.2.1))) λL=>ja (vu i.1 g.1 (w64 (x9-1)) true) λa0=>ja (yb i.1 a0 g.2.1) λa1=>ifB a1 (ja (vu i.1 g.1 (w64 (g.2.2.2.1-1)) false) λa2=>ja (yb i.1 a2 g.2.2.1) λa3=>L (g.1,g.2.1,g.2.2.1,g.2.2.2.1,a3)) (L (g.1,g.2.1,g.2.2.1,g.2.2.2.1,false))) (ny i (g.1,g.2.1,g.2.2.1,g.2.2.2.1))) λx8=>J (λ(d:(Wam jh)×Int×Int×Int×Int×Bool)=>ifB d.2.2.2.2.2 (J (λ(o:(Wam jh)×Int×Int×Int×Int×Bool)=>ifB o.2.2.2.2.2 (some true) (x8 (o.1,o.2.1,o.2.2.1,o.2.2.2.1,o.2.2.2.2.1))) λN=>ja (vu i.1 d.1 (w64 (d.2.2.2.1-1)) true) λa4=>ja (yb i.1 a4 d.2.1) λa5=>ifB a5 (ja (vu i.1 d.1 (w64 (d.2.2.2.1-1)) false) λa6=>ja (yb i.1 a6 d.2.2.1) λa7=>N (d.1,d.2.1,d.2.2.1,d.2.2.2.1,d.2.2.2.2.1,a7)) (N (d.1,d.2.1,d.2.2.1,d.2.2.2.1,d.2.2.2.2.1,false))) (x8 (d.1,d.2.1,d.2.2.1,d.2.2.2.1,d.2.2.2.2.1))) λM=>ja (some (decide (zw f=5))) λa8=>ifB a8 (M (l,a,b,(j:Int),zw f,true)) (M (l,a,b,(j:Int),zw f,decide (zw f=6)))) (λr=>r=zja e 0 a b):=λ{p}P S b2=>by{generalize zw f=K at b2;refine Tt.J (λs=>s=(l,a,b,(j:Int),K)/\zac f (Go.Proofs.YtigdmmgklieofaaGreat.numL (l.map qv) O) a b=false) (λnz I=>?_) λs⟨B,S⟩=>?_;{refine Tt.J (λs=>s=(l,a,b,(j:Int),K,true)) (λnu A=>?_) λs B=>?_;{refine Tt.b1 (wab (λc=>A _ rfl) λc=>A _ ?_);grind};.subst B;dsimp only;refine wah rfl (Tt.J (λs=>s=(l,a,b,(j:Int),K,zac f (Go.Proofs.YtigdmmgklieofaaGreat.numL (l.map qv) O) a b)) (λnu A=>?_) λs B=>?_);{refine two waa.fst P P ew ew (A _ ?_);grind};.subst B;dsimp only;exact wab (λc=>Tt.pure (G c)) λc=>I _ ⟨rfl,c⟩};.subst B;dsimp only;exact wae (wc3 U) (Z _ ⟨rfl,S⟩)};have R:zac f (Go.Proofs.YtigdmmgklieofaaGreat.numL (l.map qv) O) a b=false->zw f≠3->zw f≠5->zw f≠6->Tt wa1.mul (λi=>J (λ(g:(Wam jh)×Int×Int×Int×Int)=>ifB (decide (g.2.2.2.2=3)) (ja (Yz i.1 g.1 (w64 (g.2.2.2.1-1))) λx9=>J (λ(t:(Wam jh)×Int×Int×Int×Bool)=>ifB t.2.2.2.2 (some true) (ny i (t.1,t.2.1,t.2.2.1,t.2.2.2.1))) λL=>ja (vu i.1 g.1 (w64 (x9-1)) true) λa0=>ja (yb i.1 a0 g.2.1) λa1=>ifB a1 (ja (vu i.1 g.1 (w64 (g.2.2.2.1-1)) false) λa2=>ja (yb i.1 a2 g.2.2.1) λa3=>L (g.1,g.2.1,g.2.2.1,g.2.2.2.1,a3)) (L (g.1,g.2.1,g.2.2.1,g.2.2.2.1,false))) (ny i (g.1,g.2.1,g.2.2.1,g.2.2.2.1))) λx8=>J (λ(d:(Wam jh)×Int×Int×Int×Int×Bool)=>ifB d.2.2.2.2.2 (J (λ(o:(Wam jh)×Int×Int×Int×Int×Bool)=>ifB o.2.2.2.2.2 (some true) (x8 (o.1,o.2.1,o.2.2.1,o.2.2.2.1,o.2.2.2.2.1))) λN=>ja (vu i.1 d.1 (w64 (d.2.2.2.1-1)) true) λa4=>ja (yb i.1 a4 d.2.1) λa5=>ifB a5 (ja (vu i.1 d.1 (w64 (d.2.2.2.1-1)) false) λa6=>ja (yb i.1 a6 d.2.2.1) λa7=>N (d.1,d.2.1,d.2.2.1,d.2.2.2.1,d.2.2.2.2.1,a7)) (N (d.1,d.2.1,d.2.2.1,d.2.2.2.1,d.2.2.2.2.1,false))) (x8 (d.1,d.2.1,d.2.2.1,d.2.2.2.1,d.2.2.2.2.1))) λM=>ja (some (decide (zw f=5))) λa8=>ifB a8 (M (l,a,b,(j:Int),zw f,true)) (M (l,a,b,(j:Int),zw f,decide (zw f=6)))) (λr=>r=zja e 0 a b):=λS h3 h5 h6=>by{generalize zw f=K at h3 h5 h6;refine Tt.J (λs=>s=(l,a,b,(j:Int),K)) (λnz I=>?_) λs B=>?_;{refine Tt.J (λs=>s=(l,a,b,(j:Int),K,false)) (λnu A=>Tt.b1 (wae (wc3 h5) (A _ ?_))) λs B=>?_;{grind};.subst B;exact wae rfl (I _ rfl)};.subst B;exact wae (wc3 h3) (Z _ ⟨rfl,S⟩)};cases f with|set=>{exact R rfl (by simp[zw]) (by simp[zw]) (by simp[zw])}|empty=>{exact R rfl (by trivial) (by trivial) (by trivial)}|alt p q=>{exact R rfl (by simp[zw]) (by simp[zw]) (by simp[zw])}|opt p=>{exact R rfl (by simp[zw]) (by simp[zw]) (by simp[zw])}|star p=>{exact b5 C.star rfl (.inl rfl)}|plus p=>{exact b5 C.plus rfl (.inr rfl)}|cat p q=>obtain⟨m',P,hq,e3,e4⟩:=C.cat;have c4:=P.bound;rw[wc0]at c4;refine Tt.J (λs=>s=(l,a,b,(j:Int),3)) (λnz I=>?_) λs B=>?_;{refine Tt.J (λs=>s=(l,a,b,(j:Int),3,false)) (λnu A=>Tt.b1 (wae rfl (A _ rfl))) λs B=>?_;subst B;exact wae rfl (I _ rfl)};.subst B;dsimp only;rw[ew];refine wah rfl (Waj (zh2 l hl hq) waa.fst λr S=>?_);subst S;refine Tt.J (λs=>s=(l,a,b,(j:Int),zac (.cat p q) (Go.Proofs.YtigdmmgklieofaaGreat.numL (l.map qv) O) a b)) (λnu A=>?_) λs B=>?_;{refine two waa.fst P hq (wI U U) rfl (A _ ?_);rw[P.num];rfl};.subst B;dsimp only;exact wab (λc=>Tt.pure (G c)) λc=>Z _ ⟨rfl,c⟩
def zxy{l:Wam jh}(a:Y3 l=0):AtT (l.map qv) 0 (qm l) l.length:=by have:=wbi (qm l);rw[<- zmg a,wc0]at this;omega
def zi4{l:Wam jh}(a:Y3 l=0):jv (qm l)=(zx l).length:=(jj5 (zmg a)).symm
def zfs{l:Wam jh}(a:Y3 l=0):jv (qm l)<=512:=by have b:=zt4 (zxy a);have:=(V6 a).2;omega
def zzv(l:Wam jh)(g:Y3 l=0):Tn (λo=>Z2 o l) (λr=>r=zx l):=by
 have p:=(V6 g).2;unfold Z2;refine Waj (zio l U) waa λe h=>?_;rw[g]at h;subst h;refine wae rfl (Tt.loop (λm s=>∃k,k<=l.length/\m=l.length-k/\s=(l,(k:Int),zx (l.take k))) l.length waa ⟨0,U,Wab,rfl⟩ λm s⟨k,q,t,f⟩ u d=>?_);subst f;dsimp only;refine wad (λc=>?_) λc=>Tt.pure ?_
 .have a:k<l.length:=U;have n:zx (l.take (k+1))=zx (l.take k)++if(l[k]).1=1 then [(l[k]).2.1]else []:=by rw[wcp a,zyo]
  have j:(zx (l.take k)).length<=512:=by{unfold zx;grind};refine Tt.J (λs=>s=(l,(k:Int),zx (l.take (k+1)))) (λv b=>?_) λs f=>?_;{refine Tt.at a (wab (λi=>?_) λi=>b _ ?_);{refine Tt.at a (wac _ (ye X U) (b _ ?_));grind};grind};.subst f;dsimp only;refine wai ?_;exact d (l.length-(k+1)) _ U ⟨k+1,U,rfl,rfl⟩
 grind
def z7o(l:Wam jh)(a:Y3 l=0):Tn (λc=>zcp c l) (λr=>r=vk (qm l) 0):=by have d:=(V6 a).2;unfold zcp;refine Waj (zio l U) waa λe b=>?_;rw[a]at b;subst b;refine wae rfl ?_;rw[wI U U];refine Waj (zjp l U (zxy a) true) waa λr f=>Tt.pure ?_;assumption
def z2b(l:Wam jh)(a:Y3 l=0):Tn (λc=>za8 c l) (λr=>r=qj (qm l) 0):=by have d:=(V6 a).2;unfold za8;refine Waj (zio l U) waa λe b=>?_;rw[a]at b;subst b;refine wae rfl ?_;rw[wI U U];refine Waj (zjp l U (zxy a) false) waa λr f=>Tt.pure ?_;assumption
def js1(e:E)(i:Int)(k:Nat):((range (k+1)).map λ(b:Nat)=>(b:Int)).filter (λb=>zja e 0 i b)=(((range k).map λ(b:Nat)=>(b:Int)).filter λb=>zja e 0 i b)++if zja e 0 i k=true then [(k:Int)]else []:=by rw[we5,wc8,wfd];grind
def zx7(l:Wam jh)(a:Y3 l=0)(i:Nat)(hi:i<jv (qm l)):Tn (λv=>Zm v l (i:Int)) (λr=>r=zzq (qm l) i):=by have w:=(V6 a).2;have p:=zi4 a;have q:=zfs a;unfold Zm;refine Waj (zzv l a) waa λr j=>?_;subst j;rw[<- p];refine Tt.b1 ?_;unfold zzq;refine Tt.loop (λm s=>∃k o,k<=jv (qm l)/\m=jv (qm l)-k/\s=(l,(i:Int),(jv (qm l):Int),(k:Int),o)/\o=((range k).map λ(b:Nat)=>(b:Int)).filter λb=>zja (qm l) 0 i b) (jv (qm l)) waa ⟨0,_,U,Wab,rfl,rfl⟩ λm s⟨k,o,x,y,e,t⟩ z f=>?_;subst e;dsimp only;refine wad (λc=>?_) λc=>Tt.pure ?_;{have u:o.length<=512:=by{grind};have h:=js1 (qm l) i k;rw[<- t]at h;refine Tt.J (λs=>s=(l,(i:Int),(jv (qm l):Int),(k:Int),((range (k+1)).map λ(b:Nat)=>(b:Int)).filter λb=>zja (qm l) 0 i b)) (λA d=>?_) λs e=>?_;{refine Tt.J (λs=>s=(l,(i:Int),(jv (qm l):Int),(k:Int),zja (qm l) 0 i k,o)) (λB g=>?_) λs e=>?_;{refine Tt.b1 (wah (wdh U) (wah (wdh U) ?_));refine Waj (je6 l U (zmg a) i k) waa.fst λr j=>g _ X};.subst e;dsimp only;refine wab (λn=>wac _ (ye X U) (d _ ?_)) λn=>d _ ?_;{grind};grind};.subst e;dsimp only;refine wai ?_;exact f (jv (qm l)-(k+1)) _ U ⟨k+1,_,U,rfl,rfl,rfl⟩};grind
def zxr(l:Wam jh)(c:Y3 l=0):Tn (λd=>Yb d l) (λr=>∃a,r=some (zx l,a,J5 (qm l) 0,())/\a.length=jv (qm l)/\FolOk a (za1 (qm l) 0)):=
 Tt.mono (jv6 l c) λr⟨e,a,b,f,g,h⟩=>by rw[jbb b];grind
def jj9(l:Wam jh)(b:Y3 l=0):Tn (λd=>zhs d l) (λr=>r=zx l):=by unfold zhs;refine Waj (zxr l b) waa λr⟨a,c,e,f⟩=>?_;subst c;exact wah rfl (Tt.b1 (Tt.pure rfl))
def jl4(l:Wam jh)(b:Y3 l=0):Tn (λd=>zhq d l) (λr=>r=vk (qm l) 0):=by unfold zhq;refine Waj (zxr l b) waa λr⟨a,c,e,f⟩=>?_;subst c;exact wah rfl (Tt.b1 (Tt.pure rfl))
def jet(l:Wam jh)(b:Y3 l=0):Tn (λd=>zfo d l) (λr=>r=qj (qm l) 0):=by unfold zfo;refine Waj (zxr l b) waa λr⟨a,c,e,f⟩=>?_;subst c;exact wah rfl (Tt.b1 (Tt.pure rfl))
def jdu(l:Wam jh)(e:Y3 l=0)(i:Nat)(hi:i<jv (qm l)):Tn (λh=>zd6 h l (i:Int)) (λr=>r=zzq (qm l) i):=by unfold zd6;refine Waj (zxr l e) waa λr⟨a,f,m,d⟩=>?_;subst f;refine Tt.J (λs=>s=((i:Int),some (zx l,a,J5 (qm l) 0,()),true)) (λn c=>Tt.b1 (wah rfl (wah (wdh U) (Tt.b1 (c _ ?_))))) λs g=>?_;{rw[wdh];show(i:Int)<(jv (qm l):Int);omega};.subst g;have b:i<a.length:=U;refine wah rfl (Tt.b1 (Tt.at b (Tt.pure ?_)));obtain⟨j,k⟩:=d i _ (wch b);exact jt9 j k
def jvs(a b:Int):Tn (λf=>zbi f a b) (λr=>r=decide (a<b)):=by unfold zbi;refine Tt.J (λs=>s=decide (a<b)) (λg c=>?_) λs e=>Tt.pure e;refine Tt.bind (R:=λr=>r=false) (Tt.pure V) λr d=>?_;subst d;exact wae rfl (c _ rfl)
def zp2{l:W7}(h:jx l){i j:Nat}(hi:i<j)(a:j<l.length):l[i]'U<l[j]:=by have:=we3.1 h i j U a hi;omega
def bs_ex(l:W7)(x:Int)(L:l.length<=1000000)(v:jx l):Tn (λF=>ym F l x) (λr=>r.2.1=decide (x∈l)):=by unfold ym;refine Tt.b1 (Tt.loop (λm s=>∃a b,a<=b/\b<=l.length/\m=b-a/\s=(l,x,(l.length:Int),(a:Int),(b:Int))/\∀i g,(i<a->l[i]<x)/\(b<=i->x<=l[i])) l.length waa ⟨0,l.length,U,U,U,rfl,λi g=>⟨λh=>U,λh=>U⟩⟩ λm s⟨a,b,C,I,M,n,q⟩ N u=>?_);subst n;dsimp only;refine wad (λc=>?_) (λc=>?_);{have f:(a+b) / 2<l.length:=U;refine Tt.J (λs=>∃k j,k<=j/\j<=l.length/\j-k<b-a/\s=(l,x,(l.length:Int),(k:Int),(j:Int))/\∀i g,(i<k->l[i]<x)/\(j<=i->x<=l[i])) (λG d=>?_) λs⟨k,j,z,p,H,n,B⟩=>?_;{refine wac _ (mid_eq a b U) (Tt.b1 ?_);have A:wr .i64 (((a+b) / 2:Nat):Int)=(((a+b) / 2:Nat):Int):=zbv U U;rw[A];refine Tt.at f (Waj (jvs _ _) waa.fst λr w=>?_);subst w;refine wad (λo=>Tt.b1 ?_) λo=>d _ ⟨a,(a+b) / 2,U,U,U,rfl,λi g=>⟨(q i g).1,λh=>?_⟩⟩;{rw[wI U U];refine d _ ⟨(a+b) / 2+1,b,U,U,U,V,λi g=>⟨λh=>?_,(q i g).2⟩⟩;by_cases e:i=(a+b) / 2;{grind};.have:=zp2 v (i:=i) U f;omega};.by_cases e:i=(a+b) / 2;{grind};.have:=zp2 v (i:=(a+b) / 2) U g;omega};.subst n;exact u _ _ U ⟨k,j,z,p,rfl,rfl,B⟩};.have t:(∀h,l[a]≠x)->x∉l:=λh D=>by{obtain⟨i,g,rfl⟩:=wei D;have z:=q i g;by_cases p:i<a;{omega};.by_cases e:i=a;{grind};.have:=zp2 v (i:=a) U g;grind};refine Tt.J (λs=>s.2=decide (x∈l)) (λG d=>Tt.b1 (wad (λc=>?_) λc=>d _ ?_)) λs n=>Tt.pure n;{have f:a<l.length:=U;refine Tt.at f (Tt.b1 (wad (λo=>d _ ?_) λo=>?_));{grind};.have p:=wc3 (t λ_=>o);refine Tt.at f (Tt.bind (R:=λr=>r=false) (Tt.pure V) λr y=>?_);subst y;exact wae rfl (d _ p.symm)};grind
def Has_ex(l:W7)(x:Int)(a:l.length<=1000000)(b:jx l):Tn (λc=>zjg c l x) (λr=>r=decide (x∈l)):=by unfold zjg;exact Waj (bs_ex l x a b) waa λr h=>Tt.pure h
def zq8(a m:Nat)(t:jb×W8×(Wam jj)×Int×W8):yg a (m+1) t=Qt a (yg a m) t:=rfl
def StQ(g:jb)(em:W8)(al:W4)(tok:Int)(l:List jj)(a:W8)(r:Bool×W8):Prop:=r.2.length=g.2.1.length/\yx r.2<=yx a/\(r.1=true->inF em al tok l)
def jht{r:W8}{z:Nat}(h:z<r.length):r.getD z false=r[z]:=X
def zyr(g:jb)(y:GOk g)(em:W8)(al:W4)(a1:em.length=g.2.1.length)(N:∀p∈g.2.2.1,fiC em al p)(tok:Int):∀k l a,yx a<k->a.length=g.2.1.length->(∀x∈l,zdn g x)->l.length<=1000000->Tt Fi.two (λi=>yg i.1 i.2 (g,em,l,tok,a)) (StQ g em al tok l a)
 |0,_,_,h,_,_,_=>U
 |k+1,l,a,hk,Z,a2,b5=>by
  refine zla (b:=λi=>Qt i.1 (yg i.1 i.2) (g,em,l,tok,a)) ?_ λn m=>zq8 n m _;unfold Qt;have b7:=y.p;refine Tt.loop (λm s=>∃(d:Nat)(e:W8),d<=l.length/\m=l.length-d/\s=(em,l,tok,(d:Int),e,g)/\e.length=g.2.1.length/\yx e<=yx a/\(inF em al tok (l.drop d)->inF em al tok l)) l.length Big.two ⟨0,a,U,Wab,rfl,Z,wcs _,λh=>h⟩ λm s⟨d,e,hd,hm,H,f,B,u⟩ nx a3=>?_;subst H;dsimp only;refine wad (λc=>?_) λc=>Tt.pure ⟨f,B,λh=>X⟩;have F:d<l.length:=U;rw[wcy F]at u;have q:=atN F;have hx:=a2 _ (wcm F);generalize l[d]=x at u q hx;refine wac _ q (wab (λw=>wac _ q (Tt.pure ⟨f,B,λh=>u ?_⟩)) λw=>?_);{have h:=wcj h;have w:x.1=false:=by{simpa using w};unfold inF;rw[if_neg (by rw[w];simp)];exact h.symm}
  .have w:x.1=true:=by{simpa using w};obtain⟨i1,i2⟩:=hx;rw[if_pos w]at i2;obtain⟨z,hz⟩:∃z:Nat,x.2.1=z:=⟨x.2.1.toNat,U⟩
   have v:z<e.length:=U;have T:z<em.length:=U;have R:tok∈al.getD z []->inF em al tok l:=λh=>u (by
    unfold inF;rw[if_pos w,hz,wcz];exact .inl h)
   have S:em[z]=true->inF em al tok (l.drop (d+1))->inF em al tok l:=λh1 h2=>u (by
    unfold inF;rw[if_pos w,hz,wcz];exact .inr ⟨by rw[jht T,h1],h2⟩)
   refine Tt.J (λs=>∃(b:Bool)(o:W8),s=(em,l,tok,(d:Int),b,o,g)/\o.length=g.2.1.length/\yx o<=yx a/\(b=true->inF em al tok l)) (λnq G=>?_) λs⟨b,o,H,ho,C,Y⟩=>?_;{refine wac _ q ?_;rw[hz];refine waj v (Tt.at v (wab (λc2=>G _ ⟨_,_,rfl,f,B,λh=>by cases h⟩) λc2=>waj v (wac _ (yw true v) ?_)));have b4:=zg2 (by rw[wch v,c2]);refine Tt.loop (λm s=>∃i L,i<=g.2.2.1.length/\m=g.2.2.1.length-i/\s=(em,(z:Int),tok,(i:Int),L,g)/\L.length=g.2.1.length/\yx L<yx a) g.2.2.1.length Big.two.fst ⟨0,_,U,U,rfl,by rw[wdz];exact f,U⟩ λm2 s⟨i,L,hi,b6,H,D,O⟩ ny a4=>?_;subst H;dsimp only;refine wad (λc3=>?_) λc3=>(G _ ⟨_,_,rfl,D,U,λh=>by cases h⟩).fst;have A:i<g.2.2.1.length:=U;have t:=atN A;have j:=wcm A;generalize g.2.2.1[i]=p at t j;refine Tt.J (λs=>∃(b:Bool)(M:W8),s=(em,(z:Int),tok,(i:Int),b,M,g)/\M.length=g.2.1.length/\yx M<yx a/\(b=true->inF em al tok l)) (λnu Q=>?_) λs⟨b,M,H,P,a0,Y⟩=>?_;{refine wac _ t (Tt.b1 (wad (λc4=>wac _ t ?_) λc4=>Q _ ⟨_,_,rfl,D,O,λh=>by cases h⟩));have ih:=zyr g y em al a1 N tok k p.2.1 L U D (y.items p j) (by have:=y.len p j;omega);refine Tt.bind ih.fst.fst λr⟨r1,r2,r3⟩=>Q _ ⟨_,_,rfl,r1,U,λh=>R ?_⟩;have:=N p j tok (r3 h);grind};.subst H;dsimp only;refine wab (λI=>(G _ ⟨_,_,rfl,P,U,λ_=>Y I⟩).fst) λI=>wai ?_;exact a4 (g.2.2.1.length-(i+1)) _ U ⟨i+1,M,U,rfl,rfl,P,a0⟩};.subst H;dsimp only;refine wab (λI=>Tt.pure ⟨ho,C,λ_=>Y I⟩) λI=>wac _ q ?_;rw[hz];refine Tt.at T (wab (λc6=>Tt.pure ⟨ho,C,λh=>X⟩) λc6=>wai ?_);exact a3 (l.length-(d+1)) _ U ⟨d+1,o,U,rfl,rfl,ho,C,S X⟩
def RN.snoc{n:Nat}{l:W7}(h:RN n l){i:Nat}(hi:i<n)(f:∀x∈l,x<(i:Int)):RN n (l++[(i:Int)]):=by refine⟨?_,λx c=>?_⟩;{unfold jx;rw[wel];exact⟨h.r,V,λa e b d=>by simp at d;subst d;exact f a e⟩};.rcases wcu.1 c with c|c;{exact h.b x c};.simp at c;subst c;omega
end
end Go.Proofs.YtigdmmgklieofaaGreat.T
