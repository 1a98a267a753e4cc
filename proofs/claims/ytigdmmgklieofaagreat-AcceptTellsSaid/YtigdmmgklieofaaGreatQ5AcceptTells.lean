
import Derived.Test.YtigdmmgklieofaaGreatQ4AcceptTells

namespace Go.Proofs.YtigdmmgklieofaaGreat.T
noncomputable section
open _root_.Go.Proofs.Tryz
set_option maxRecDepth 100000
set_option maxHeartbeats 8000000
set_option linter.unusedVariables false
set_option linter.unusedSimpArgs false
open Go Go.RowKit L
theorem ziv(g:jb)(w:zc4 g):Tn (λnn=>Zv nn g) (λd=>d=gFd g):=by
 have ht:=w.t;have S:=w.r;have hp:=w.p;have D:gFd g=jz (((((szA g++szB g)++zp1 g)++zof g)++zl6 g++[zi9 g])++zlz g):=by
  unfold gFd;simp only[wc6]
 unfold Zv;refine Waa (jgp g w.toGLen) waa λd0 G=>?_;generalize szA g++szB g=X at G D;refine Tt.loop (λm s=>∃(k:Nat)(d:jd),k<=g.1.length/\m=g.1.length-k/\s=((k:Int),g,zd,d)/\d=jz (X++(zp1 g).take k)) g.1.length waa ⟨0,d0,by omega,by omega,rfl,by simpa using G⟩ λm s⟨k,d,N,O,n,q⟩ I j=>?_;subst n;dsimp only;have W:(zp1 g).length=g.1.length:=by unfold zp1;simp
 refine Tt.J (λs=>∃b,s=((k:Int),b,g,zd,d)/\(b=true↔d.1=0/\k<g.1.length)) (λE f=>?_) (λs⟨b,n,u⟩=>?_)
 ·refine wad (wab (λe=>f _ ⟨_,rfl,?_⟩) λe=>f _ ⟨_,rfl,?_⟩)
  ·have e:=wcd e;simp only[wcy];omega
  ·have e:=wce e;simp[e]
 subst n;dsimp only;refine wab (λc=>?_) (λc=>?_)
 ·obtain⟨e,o⟩:=u.1 c;have i:=wcf o;refine Waa (jgj g w k _ i) waa.fst λx y=>wad ?_;rw[wI (by omega) (by omega)];refine j (g.1.length-(k+1)) _ (by omega) ⟨k+1,x,by omega,rfl,rfl,?_⟩;subst y;exact zov q e (by unfold zp1;rw[wet,i];rfl) λh=>tokD_z h
 have A:=zng q (by rw[W];exact λh=>by rw[u.2 h]at c;cases c);clear j q u;generalize X++zp1 g=K at A D;have U:(zof g).length=g.2.1.length:=by unfold zof;simp
 refine Tt.loop (λm s=>∃(k:Nat)(d:jd),k<=g.2.1.length/\m=g.2.1.length-k/\s=((k:Int),g,zd,d)/\d=jz (K++(zof g).take k)) g.2.1.length waa.fst ⟨0,d,by omega,by omega,rfl,by simpa using A⟩ λm s⟨k,d,N,O,n,q⟩ I j=>?_;subst n;dsimp only;refine Tt.J (λs=>∃b,s=((k:Int),b,g,zd,d)/\(b=true↔d.1=0/\k<g.2.1.length)) (λE f=>?_) (λs⟨b,n,u⟩=>?_)
 ·refine wad (wab (λe=>f _ ⟨_,rfl,?_⟩) λe=>f _ ⟨_,rfl,?_⟩)
  ·have e:=wcd e;simp only[wcy];omega
  ·have e:=wce e;simp[e]
 subst n;dsimp only;refine wab (λc=>?_) (λc=>?_)
 ·obtain⟨e,o⟩:=u.1 c;have i:=wcf o;have z:=wcm o;generalize g.2.1[k]=t at i z;have C:d=zd:=by
   have:=zjt (l:=K++(zof g).take k) (by rw[<- q];exact e);rw[q,this]
  refine Tt.J (λs=>∃x,s=((k:Int),g,zd,x)/\x=zyr g k t) (λE f=>?_) (λs⟨x,n,y⟩=>?_)
  ·refine Waa (z1x g w.toGLen) waa.fst.fst λns Q=>?_;subst Q;have ew:T.w64 ((g.1.length:Int)+(k:Int))=((g.1.length+k:Nat):Int):=by rw[wI (by omega) (by omega)];omega
   rw[ew];have y:(zb0 g)[g.1.length+k]?=some t:=by unfold zb0;rw[wct (by simp)];simpa using i
   have V:(zb0 g).take (g.1.length+k)=g.1.map (·.1)++g.2.1.take k:=by
    unfold zb0;rw[show g.1.length+k=(g.1.map (·.1)).length+k by simp,List.take_length_add_append]
   refine Waa (z6p (zb0 g) (by unfold zb0;simp;omega) _ t y (w.rm t z)) waa.fst.fst λr S=>?_;rw[V]at S;unfold zyr at f;rcases S with⟨rfl,a⟩|⟨rfl,a,b⟩|⟨rfl,a,b⟩
   ·exact wah rfl (f _ ⟨_,rfl,by rw[if_pos a]⟩)
   ·exact wah rfl (f _ ⟨_,rfl,by rw[if_neg (λh=>h a),if_pos b]⟩)
   ·exact wae rfl (f _ ⟨_,rfl,by rw[if_neg (λh=>h a),if_neg b];exact C⟩)
  ·subst n;refine wad ?_;dsimp only;rw[wI (by omega) (by omega)];refine j (g.2.1.length-(k+1)) _ (by omega) ⟨k+1,x,by omega,rfl,rfl,?_⟩;subst y;refine zov q e (by unfold zof;rw[wet,i];rfl) λh=>?_;unfold zyr at h⊢;split at h
   ·cases h
   ·rename_i M;rw[if_neg M];split at h
    ·cases h
    ·rename_i h2;rw[if_neg h2]
 have B:=zng q (by rw[U];exact λh=>by rw[u.2 h]at c;cases c);clear j q u A;generalize K++zof g=Y at B D;have R:(zl6 g).length=g.2.2.1.length:=by unfold zl6;simp
 refine Tt.loop (λm s=>∃(k:Nat)(d:jd),k<=g.2.2.1.length/\m=g.2.2.1.length-k/\s=((k:Int),g,zd,d)/\d=jz (Y++(zl6 g).take k)) g.2.2.1.length waa.fst.fst ⟨0,d,by omega,by omega,rfl,by simpa using B⟩ λm s⟨k,d,N,O,n,q⟩ I j=>?_;subst n;dsimp only;refine Tt.J (λs=>∃b,s=((k:Int),b,g,zd,d)/\(b=true↔d.1=0/\k<g.2.2.1.length)) (λE f=>?_) (λs⟨b,n,u⟩=>?_)
 ·refine wad (wab (λe=>f _ ⟨_,rfl,?_⟩) λe=>f _ ⟨_,rfl,?_⟩)
  ·have e:=wcd e;simp only[wcy];omega
  ·have e:=wce e;simp[e]
 subst n;dsimp only;refine wab (λc=>?_) (λc=>?_)
 ·obtain⟨e,o⟩:=u.1 c;have i:=wcf o;refine Waa (ji9 g w k _ i) waa.fst.fst.fst λx y=>wad ?_;rw[wI (by omega) (by omega)];refine j (g.2.2.1.length-(k+1)) _ (by omega) ⟨k+1,x,by omega,rfl,rfl,?_⟩;subst y;exact zov q e (by unfold zl6;rw[wet,i];rfl) λh=>prdD_z h
 have v:=zng q (by rw[R];exact λh=>by rw[u.2 h]at c;cases c);clear j q u B;generalize Y++zl6 g=L at v D;refine Tt.J (λs=>∃d,s=(g,zd,d)/\d=jz (L++[zi9 g])) (λI j=>?_) (λs⟨d,n,H⟩=>?_)
 ·refine Tt.J (λs=>∃b,s=(b,g,zd,d)/\(b=true↔d.1=0/\(g.2.2.2.1<0\/(g.2.1.length:Int)<=g.2.2.2.1))) (λE f=>?_) (λs⟨b,n,u⟩=>?_)
  ·refine wad (wab (λe=>wad (wab (λo=>f _ ⟨_,rfl,?_⟩) λo=>f _ ⟨_,rfl,?_⟩)) λe=>f _ ⟨_,rfl,?_⟩)
   ·have e:=wcd e;have o:=wcd o;simp[e,o]
   ·have e:=wcd e;have o:=wce o;simp only[wcy];omega
   ·have e:=wce e;simp[e]
  ·subst n;dsimp only;refine wab (λc=>j _ ⟨_,rfl,?_⟩) λc=>j _ ⟨_,rfl,?_⟩
   ·obtain⟨e,o⟩:=u.1 c;rw[vk,if_pos (by rw[<- v];exact e)];unfold zi9;rw[if_pos o];rfl
   ·by_cases e:d.1=0
    ·have o:¬(g.2.2.2.1<0\/(g.2.1.length:Int)<=g.2.2.2.1):=λh=>by rw[u.2 ⟨e,h⟩]at c;cases c
     rw[vk,if_pos (by rw[<- v];exact e)];unfold zi9;rw[if_neg o];have:=zjt (l:=L) (by rw[<- v];exact e);rw[v,this];rfl
    ·rw[vk,if_neg (by rw[<- v];exact e)];exact v
 subst n;dsimp only;clear v;generalize L++[zi9 g]=Z at H D;have P:(zlz g).length=g.2.1.length:=by unfold zlz;simp
 refine Tt.loop (λm s=>∃(k:Nat)(d:jd),k<=g.2.1.length/\m=g.2.1.length-k/\s=((k:Int),g,zd,d)/\d=jz (Z++(zlz g).take k)) g.2.1.length waa.fst.fst.fst ⟨0,d,by omega,by omega,rfl,by simpa using H⟩ λm s⟨k,d,N,O,n,q⟩ I j=>?_;subst n;dsimp only;refine Tt.J (λs=>∃b,s=((k:Int),b,g,zd,d)/\(b=true↔d.1=0/\k<g.2.1.length)) (λE f=>?_) (λs⟨b,n,u⟩=>?_)
 ·refine wad (wab (λe=>f _ ⟨_,rfl,?_⟩) λe=>f _ ⟨_,rfl,?_⟩)
  ·have e:=wcd e;simp only[wcy];omega
  ·have e:=wce e;simp[e]
 subst n;dsimp only;refine wab (λc=>?_) (λc=>Tt.pure ?_)
 ·obtain⟨e,o⟩:=u.1 c;have i:=wcf o;have C:d=zd:=by
   have:=zjt (l:=Z++(zlz g).take k) (by rw[<- q];exact e);rw[q,this]
  refine Tt.J (λs=>∃x,s=((k:Int),g,zd,x)/\x=z5s g k g.2.1[k]) (λE f=>?_) (λs⟨x,n,y⟩=>?_)
  ·refine Waa (refOfE g w.toGLen (k:Int)) waa.fst.fst.fst.fst λl hl=>?_;subst hl;unfold z5s at f;refine wab (λF=>f _ ⟨_,rfl,?_⟩) λF=>f _ ⟨_,rfl,?_⟩
   ·have F:=wcd F;rw[if_pos (by omega)]
   ·have F:=wce F;rw[if_neg (by omega)];exact C
  ·subst n;refine wad ?_;dsimp only;rw[wI (by omega) (by omega)];refine j (g.2.1.length-(k+1)) _ (by omega) ⟨k+1,x,by omega,rfl,rfl,?_⟩;subst y;refine zov q e (by unfold zlz;rw[wet,i];rfl) λh=>?_;unfold z5s at h⊢;split at h
   ·cases h
   ·rename_i M;rw[if_neg M]
 ·rw[D];exact zng q (by rw[P];exact λh=>by rw[u.2 h]at c;cases c)
theorem at0{α:Type}(x:α)(l:List α):atL (x::l) 0=some x:=rfl
theorem sl1{α:Type}(x:α)(l:List α):zk0 (x::l) (some 1) none=some l:=by
 unfold zk0 bdN;simp
structure UnI(a b a' b' out:List Int):Prop where
 m:∀x,(x∈a\/x∈b)↔(x∈out\/x∈a'\/x∈b')
 l:out.length+a'.length+b'.length<=a.length+b.length
 r:jy a->jy b->jy a'/\jy b'/\jy out/\∀x∈out,(∀y∈a',x<y)/\∀y∈b',x<y
theorem zwp{l:List Int}{x:Int}(h:jy l)(a:∀y∈l,y<x):jy (l++[x]):=by
 unfold jy at *;rw[wer];exact⟨h,by simp,λy b z hz=>by simp at hz;subst hz;exact a y b⟩
theorem jgo(a b:List Int)(W:a.length+b.length<=1000000):Tn (λV=>Jn V a b) (λr=>r.length<=a.length+b.length/\(∀x,x∈r↔x∈a\/x∈b)/\(jy a->jy b->jy r)):=by
 unfold Jn;refine Tt.loop (λm s=>∃t k out,m=t.length+k.length/\s=(t,k,out)/\UnI a b t k out) (a.length+b.length) waa ⟨a,b,[],rfl,rfl,⟨λx=>by simp,by simp,λg j=>⟨g,j,by simp[jy],by simp⟩⟩⟩ λm s⟨t,k,out,G,U,i⟩ X n=>?_;subst U;have f:=i.l;have u:∀x:Int,out.length+1<=1000000->apO 8 out [x]=some (out++[x]):=λx h=>yf (by simp;omega) (by omega);have L:∀{x:Int}{c:List Int},t=x::c->(jy k->∀y∈k,x<y)->UnI a b c k (out++[x]):=λ{x c}e v=>by
  subst e;refine⟨λz=>by rw[i.m];simp;grind,by have:=i.l;simp at this⊢;omega,λg j=>?_⟩;obtain⟨E,F,K,q⟩:=i.r g j;have o:=wd1.1 E;refine⟨o.2,F,zwp K λy A=>(q y A).1 x (by simp),λz hz=>?_⟩;rcases wco.1 hz with hz|hz
  ·exact⟨λy A=>(q z hz).1 y (by simp[A]),(q z hz).2⟩
  ·simp at hz;subst hz;exact⟨o.1,v F⟩
 have M:∀{y:Int}{d:List Int},k=y::d->(jy t->∀x∈t,y<x)->UnI a b t d (out++[y]):=λ{y d}e v=>by
  subst e;refine⟨λz=>by rw[i.m];simp;grind,by have:=i.l;simp at this⊢;omega,λg j=>?_⟩;obtain⟨E,F,K,q⟩:=i.r g j;have p:=wd1.1 F;refine⟨E,p.2,zwp K λz hz=>(q z hz).2 y (by simp),λz hz=>?_⟩;rcases wco.1 hz with hz|hz
  ·exact⟨(q z hz).1,λx I=>(q z hz).2 x (by simp[I])⟩
  ·simp at hz;subst hz;exact⟨v E,p.1⟩
 have O:∀{x:Int}{c d:List Int},t=x::c->k=x::d->UnI a b c d (out++[x]):=λ{x c d}Q R=>by
  subst Q;subst R;refine⟨λz=>by rw[i.m];simp;grind,by have:=i.l;simp at this⊢;omega,λg j=>?_⟩;obtain⟨E,F,K,q⟩:=i.r g j;have o:=wd1.1 E;have p:=wd1.1 F;refine⟨o.2,p.2,zwp K λz hz=>(q z hz).2 x (by simp),λz hz=>?_⟩;rcases wco.1 hz with hz|hz
  ·exact⟨λy A=>(q z hz).1 y (by simp[A]),λy A=>(q z hz).2 y (by simp[A])⟩
  ·simp at hz;subst hz;exact⟨o.1,p.1⟩
 have P:∀{x y:Int}{l:List Int},x<y->jy (y::l)->∀z∈y::l,x<z:=λ{x y l}h S z hz=>by
  have:=wd1.1 S;rcases wc1.1 hz with rfl|hz
  ·exact h
  ·have:=this.1 z hz;omega
 cases t with
 |nil=>
  cases k with
  |nil=>
   simp[T.J,ja,ifB];refine Tt.pure ⟨by have:=i.l;simpa using this,λx=>?_,λg j=>(i.r g j).2.2.1⟩;have:=i.m x;simp at this;exact this.symm
  |cons y d=>
   have N:=u y (by simp at f;omega);simp[T.J,ja,ifB,at0,sl1,N];exact n _ _ (by subst G;simp) ⟨[],d,_,rfl,rfl,M rfl λ_ x I=>by cases I⟩
 |cons x c=>
  cases k with
  |nil=>
   have N:=u x (by simp at f;omega);simp[T.J,ja,ifB,at0,sl1,N];exact n _ _ (by subst G;simp) ⟨c,[],_,rfl,rfl,L rfl λ_ x I=>by cases I⟩
  |cons y d=>
   have w:=u x (by simp at f;omega);have H:=u y (by simp at f;omega);have B:¬((d.length:Int)+1=0):=by omega
   have C:¬((c.length:Int)+1=0):=by omega
   have D:(0:Int)<(c.length:Int)+1:=by omega
   by_cases g:x<y
   ·simp[T.J,ja,ifB,at0,sl1,w,H,g,B,C,D];exact n _ _ (by subst G;simp<;>omega) ⟨c,y::d,_,rfl,rfl,L rfl (P g)⟩
   ·by_cases j:y<x
    ·simp[T.J,ja,ifB,at0,sl1,w,H,g,j,B,C,D];exact n _ _ (by subst G;simp<;>omega) ⟨x::c,d,_,rfl,rfl,M rfl (P j)⟩
    ·have e:x=y:=by omega
     subst e;simp[T.J,ja,ifB,at0,sl1,w,B,C,D];exact n _ _ (by subst G;simp<;>omega) ⟨c,d,_,rfl,rfl,O rfl rfl⟩
theorem qv{n k:Nat}(h:k<n):jw n (k:Int)=some (k:Int):=by
 unfold jw;simp[h]
theorem zm{α:Type}{l:List α}{k:Nat}(x:α)(h:k<l.length):yz l (k:Int) x=some (l.set k x):=by
 unfold yz;simp[h]
theorem mkN{b n:Nat}(d:n<=1000000)(e:b<=1000):mkO b (n:Int)=some n:=by
 unfold mkO;have a:decide ((n:Nat)<=maxLen)=true:=wc9 (by simp only[maxLen];omega);have c:decide (b*n<=281474976710656)=true:=wc9 (by have:=Nat.mul_le_mul e d;omega);simp[a,c]
def yd:List Bool->Nat
 |[]=>0
 |b::l=>(if b=true then 0 else 1)+yd l
theorem zem:∀{l:List Bool}{k:Nat},l[k]?=some false->yd (l.set k true)+1=yd l
 |[],k,h=>by simp at h
 |b::l,0,h=>by
  simp at h;subst h;simp[yd];omega
 |b::l,k+1,h=>by
  have:=zem (l:=l) (k:=k) (by simpa using h);simp[yd];omega
def emC(r:List Bool)(p:jh):Prop:=(∀x∈p.2.1,x.1=true/\r[x.2.1.toNat]?=some true)->r[p.1.toNat]?=some true
theorem jfr(g:jb)(x:ji)(r:List Bool)(k:r.length=g.2.1.length)(i:zao g x):Tn (λj=>Ya j x r) (λb=>b=true↔x.1=true/\r[x.2.1.toNat]?=some true):=by
 unfold Ya;refine Tt.J (λb=>b=true↔x.1=true/\r[x.2.1.toNat]?=some true) (λl a=>?_) (λs h=>Tt.pure h);refine wab (λc=>?_) (λc=>a _ (by simp[c]));obtain⟨e,f⟩:=i;rw[if_pos c]at f;have d:x.2.1.toNat<r.length:=by omega
 refine wac _ (Jo e (wcf d)) (a _ ?_);rw[wcf d];simp[c]
abbrev GR(g:jb):Prop:=Tn (λnn=>y6 nn g) (λb=>b=true)
theorem jdj(N:Int):∀(l:List Int)(lo:Int),jy l->(∀x∈l,lo<=x/\x<N)->(l.length:Int)<=max 0 (N-lo)
 |[],lo,_,_=>by simp;omega
 |x::l,lo,d,b=>by
  have a:=wd1.1 d;have e:=b x (by simp);have:=jdj N l (x+1) a.2 λy c=>⟨by have:=a.1 y c;omega,(b y (by simp[c])).2⟩
  simp only[wdy];omega
theorem z9k(l:List Int)(h:jy l)(N:Nat)(a:∀x∈l,0<=x/\x<(N:Int)):l.length<=N:=by
 have:=jdj N l 0 h a;omega
structure RN(n:Nat)(l:List Int):Prop where
 r:jy l
 b:∀x∈l,0<=x/\x<n
theorem RN.len{n:Nat}{l:List Int}(h:RN n l):l.length<=n:=z9k l h.r n h.b
theorem RN.nil(n:Nat):RN n []:=⟨by simp[jy],by simp⟩
def inF(em:List Bool)(al:List (List Int))(t:Int):List ji->Prop
 |[]=>False
 |x::l=>if x.1=true then t∈al.getD x.2.1.toNat []\/(em.getD x.2.1.toNat false=true/\inF em al t l)else t=x.2.1
theorem ze4{n:Nat}{a b:List Int}(l:n<=1000)(c:RN n a)(d:RN n b):Tn (λe=>Y0 e a b) (λr=>RN n r/\∀x,x∈r↔x∈a\/x∈b):=by
 have j:=c.len;have k:=d.len;refine Tt.mono (jgo a b (by omega):Tn (λe=>Y0 e a b) _) λr⟨_,f,i⟩=>⟨⟨i c.r d.r,λx g=>?_⟩,f⟩
 rcases(f x).1 g with h|h
 ·exact c.b x h
 ·exact d.b x h
theorem jgt(g:jb)(A:GOk g)(em:List Bool)(al:List (List Int))(N:em.length=g.2.1.length)(M:al.length=g.2.1.length)(u:∀l∈al,RN g.1.length l)(its:List ji)(P:its.length<=1000)(v:∀x∈its,zao g x):
  Tn (λH=>Qt H (some (em,al,())) its) (λr=>RN g.1.length r/\∀t,t∈r↔inF em al t its):=by
 have R:=A.t;unfold Qt Zc;refine Tt.J (λr=>RN g.1.length r/\∀t,t∈r↔inF em al t its) (λI E=>?_) (λs C=>Tt.pure C);refine Tt.loop (λm s=>∃(k:Nat)(out:List Int),k<=its.length/\m=its.length-k/\s=(some (em,al,()),its,(its.length:Int),(k:Int),out)/\RN g.1.length out/\∀t,inF em al t its↔t∈out\/inF em al t (its.drop k)) its.length waa ⟨0,[],by omega,by omega,rfl,RN.nil _,λt=>by simp⟩ λm s⟨k,out,O,Q,C,B,a⟩ S z=>?_;subst C;dsimp only;refine wab (λc=>?_) (λc=>E.fst _ ⟨B,λt=>?_⟩)
 ·have c:=wcd c;have h:k<its.length:=by omega
  have j:its[k]∈its:=wcm h;have i:its.drop k=its[k]::its.drop (k+1):=wc0 h;refine wac _ (atN h) ?_;obtain⟨x,G⟩:∃x,its[k]=x:=⟨_,rfl⟩
  rw[G]at j i⊢;rw[i]at a;obtain⟨D,o⟩:=v x j;refine wab (λd=>?_) (λd=>?_)
  ·have d:x.1=false:=by simpa using d
   rw[d]at o;simp only[wdp,if_false]at o;refine Waa (ze4 (n:=g.1.length) (by omega) B ⟨by simp[jy],λy F=>by simp at F;subst F;exact⟨D,o⟩⟩) waa.fst λr⟨p,q⟩=>Tt.pure ⟨p,λt=>?_⟩;rw[q,a];simp[inF,d]
  ·have d:x.1=true:=by simpa using d
   rw[d,if_pos rfl]at o;have b:x.2.1.toNat<al.length:=by omega
   have e:x.2.1.toNat<em.length:=by omega
   refine wad (wac _ (Jo D (wcf b)) ?_);refine Waa (ze4 (n:=g.1.length) (by omega) B (u _ (wcm b))) waa.fst λr⟨p,q⟩=>?_;refine wad (wac _ (Jo D (wcf e)) ?_);have K:al.getD x.2.1.toNat []=al[x.2.1.toNat]:=by simp[List.getD,b]
   have L:em.getD x.2.1.toNat false=em[x.2.1.toNat]:=by simp[List.getD,e]
   refine wab (λf=>E.fst _ ⟨p,λt=>?_⟩) (λf=>wad ?_)
   ·have f:em[x.2.1.toNat]=false:=by simpa using f
    rw[q,a];simp[inF,d,List.getD,b,e,f]
   ·have f:em[x.2.1.toNat]=true:=by simpa using f
    rw[wI (by omega) (by omega)];refine z (its.length-(k+1)) _ (by omega) ⟨k+1,r,by omega,rfl,by simp,p,λt=>?_⟩;rw[a,q];simp[inF,d,List.getD,b,e,f,or_assoc]
 ·have c:=wce c;have w:k=its.length:=by omega
  rw[a,w,wd3];simp[inF]
theorem zhl:∀{a r:List Int},jy a->jy r->(∀x∈a,x∈r)->a.length<=r.length/\(r.length<=a.length->a=r)
 |[],r,_,_,_=>⟨by simp,λh=>by simp at h;simp[h]⟩
 |x::a,[],_,_,h=>by have:=h x (by simp);simp at this
 |x::a,y::r,j,k,h=>by
  have d:=wd1.1 j;have f:=wd1.1 k;by_cases e:x=y
  ·subst e;have c:∀z∈a,z∈r:=λz hz=>by
    rcases wc1.1 (h z (by simp[hz]))with b|b
    ·have:=d.1 z hz;omega
    ·exact b
   obtain⟨b,g⟩:=zhl d.2 f.2 c;exact⟨by simp;omega,λi=>by rw[g (by simpa using i)]⟩
  ·have l:x∈r:=by
    rcases wc1.1 (h x (by simp))with b|b
    ·exact absurd b e
    ·exact b
   have m:=f.1 x l;have c:∀z∈x::a,z∈r:=λz hz=>by
    rcases wc1.1 (h z hz)with b|b
    ·rcases wc1.1 hz with g|g
     ·omega
     ·have:=d.1 z g;omega
    ·exact b
   obtain⟨b,_⟩:=zhl j f.2 c;exact⟨by simp at b⊢;omega,λi=>by simp at b i;omega⟩
termination_by a r=>r.length
def J4(T:Nat):List (List Int)->Nat
 |[]=>0
 |l::r=>(T-l.length)+J4 T r
theorem zjb{T:Nat}:∀{al:List (List Int)}{k:Nat}{o n:List Int},al[k]?=some o->o.length<n.length->n.length<=T->J4 T (al.set k n)<J4 T al
 |[],k,o,n,h,_,_=>by simp at h
 |l::r,0,o,n,h,a,b=>by simp at h;subst h;simp[J4];omega
 |l::r,k+1,o,n,h,a,b=>by
  have:=zjb (al:=r) (k:=k) (by simpa using h) a b;simp[J4];omega
def fiC(em:List Bool)(al:List (List Int))(p:jh):Prop:=∀t,inF em al t p.2.1->t∈al.getD p.1.toNat []
theorem jfw(g:jb)(l:Y1 g)(its:List ji)(v:its.length<=1000000)(h:∀x∈its,zao g x):Tn (λo=>zca o g its) (λb=>b=true):=by
 have p:=l.t;have q:=l.r;unfold zca;refine Tt.loop (λm s=>∃k:Nat,k<=its.length/\m=its.length-k/\s=(its,(its.length:Int),(k:Int),g)) its.length waa ⟨0,by omega,by omega,rfl⟩ λm s⟨k,u,w,e⟩ A i=>?_;subst e;dsimp only;refine wab (λc=>?_) (λc=>Tt.pure rfl);have c:=wcd c;have a:k<its.length:=by omega
 have f:its[k]∈its:=wcm a;refine wac _ (atN a) ?_;obtain⟨x,n⟩:∃x,its[k]=x:=⟨_,rfl⟩
 rw[n]at f⊢;obtain⟨y,z⟩:=h x f;refine Tt.J (λs=>s=((if x.1=true then(g.2.1.length:Int)else g.1.length),its,(its.length:Int),(k:Int),g,x)) (λB d=>?_) (λs e=>?_)
 ·exact wab (λc=>d _ (by rw[c];rfl)) (λc=>d _ (by rw[c];rfl))
 ·subst e;dsimp only;refine Tt.J (λs=>s=(its,(its.length:Int),(k:Int),false,g)) (λC j=>?_) (λs e=>?_)
  ·refine wad (wae (wcw (by omega)) (j _ ?_));rw[wcw (by omega)]
  ·subst e;dsimp only;refine wae rfl (wad ?_);rw[wI (by omega) (by omega)];exact i (its.length-(k+1)) _ (by omega) ⟨k+1,by omega,rfl,by simp⟩
theorem z58(g:jb)(n:Y1 g)(f:GOk g)(em:List Bool)(al:List (List Int))(c:em.length=g.2.1.length)(o:al.length=g.2.1.length)(i:∀l∈al,RN g.1.length l)(k:Tn (λj=>Jl j g) (λr=>r=some (em,al,())))
  (its:List ji) (d:its.length<=1000) (a:∀x∈its,zao g x):Tn (λj=>zmk j g its) (λr=>RN g.1.length r/\∀t,t∈r↔inF em al t its):=by
 unfold zmk zls;refine Waa k waa λr h=>?_;subst h;refine Tt.J (λs=>s=(its,some (em,al,()),false)) (λq e=>?_) (λs p=>?_)
 ·refine wae rfl (Waa (jfw g n its (by omega) a) waa λb m=>?_);subst m;exact e _ rfl
 ·subst p;dsimp only;refine wae rfl (Waa (jgt g f em al c o i its d a) waa λr h=>Tt.pure h)
theorem jh1(g:jb)(B:GOk g)(em:List Bool)(K:Tn (λE=>yl E g) (λr=>r=em))(v:em.length=g.2.1.length)(its:List ji)(L:its.length<=1000)(z:∀x∈its,zao g x):
  Tn (λE=>zfd E g its) (λb=>b=true↔∀x∈its,x.1=true/\em[x.2.1.toNat]?=some true):=by
 unfold zfd;refine Waa K waa λr M=>?_;subst M;have N:=B.start;have p:jg6 r=some false:=by
  cases r with
  |nil=>simp at v;omega
  |cons a l=>rfl
 refine wac _ p (wae rfl ?_);refine Tt.loop (λm s=>∃k:Nat,k<=its.length/\m=its.length-k/\s=(r,its,(its.length:Int),(k:Int))/\∀i,i<k->∀x,its[i]?=some x->x.1=true/\r[x.2.1.toNat]?=some true) its.length waa ⟨0,by omega,by omega,rfl,λi t=>by omega⟩ λm s⟨k,R,S,C,d⟩ T A=>?_;subst C;dsimp only;refine wab (λc=>?_) (λc=>Tt.pure ⟨λ_ x O=>?_,λ_=>rfl⟩)
 ·have c:=wcd c;have j:k<its.length:=by omega
  have n:its[k]∈its:=wcm j;refine wac _ (atN j) ?_;have o:its[k]?=some its[k]:=wcf j;obtain⟨x,G⟩:∃x,its[k]=x:=⟨_,rfl⟩
  rw[G]at n o⊢;obtain⟨P,Q⟩:=z x n;refine Tt.J (λs=>∃f,s=(r,its,(its.length:Int),(k:Int),f)/\(f=true->¬(x.1=true/\r[x.2.1.toNat]?=some true))/\(f=false->x.1=true/\r[x.2.1.toNat]?=some true)) (λU q=>?_) (λs⟨f,C,H,I⟩=>?_)
  ·refine wad (wab (λc=>q _ ⟨true,rfl,λ_ h=>?_,λh=>by cases h⟩) (λc=>?_))
   ·rw[h.1]at c;cases c
   ·have F:x.1=true:=by simpa using c
    rw[if_pos F]at Q;have e:x.2.1.toNat<r.length:=by omega
    refine wae (wcw (by omega)) (wae (wcw (by omega)) ?_);refine wac _ (Jo P (wcf e)) (q _ ⟨_,rfl,λh=>?_,λh=>?_⟩)
    ·rw[wcf e];simp at h;simp[h]
    ·rw[wcf e];simp at h;simp[h,F]
  ·subst C;dsimp only;refine wab (λu=>Tt.pure ⟨λh=>(by cases h),λh=>absurd (h x n) (H u)⟩) (λu=>wad ?_);rw[wI (by omega) (by omega)];refine A (its.length-(k+1)) _ (by omega) ⟨k+1,by omega,rfl,by simp,λi t y D=>?_⟩;by_cases w:i<k
   ·exact d i w y D
   ·have:i=k:=by omega
    subst this;rw[o]at D;cases D;exact I u
 ·have c:=wce c;obtain⟨i,t⟩:=wdc O;exact d i (by have:=(wcg.1 t).1;omega) x t
theorem z39(g:jb)(a:GOk g)(em:List Bool)(al:List (List Int))(e:al.length=g.2.1.length)(d:Tn (λb=>Jl b g) (λr=>r=some (em,al,()))):
  Tn (λb=>zc2 b g) (λr=>r=al):=by
 have c:=a.r;unfold zc2;refine Waa d waa λr c=>?_;subst c;refine wae rfl (wad (wad ?_));dsimp only;refine wac _ (mkN (by omega) (by omega)) (wad ?_);refine wac _ rfl (Tt.pure ?_);simp
theorem jm9(g:jb)(a:GR g):Tn (λd=>zdp d g) (λr=>r=g.1.length):=by
 unfold zdp;refine Waa a waa λb c=>?_;subst c;exact wae rfl (Tt.pure rfl)
def reC(r:List Bool)(p:jh):Prop:=r[p.1.toNat]?=some true->∀x∈p.2.1,x.1=true->r[x.2.1.toNat]?=some true
theorem z6b{r:List Bool}{i q:Nat}(h:r[i]?=some true):(r.set q true)[i]?=some true:=by
 rw[wc8];have:=(wcg.1 h).1;split
 ·rename_i e;subst e;simp[this]
 ·exact h
theorem RN.up{n m:Nat}{l:List Int}(h:RN n l)(hm:n<=m):RN m l:=⟨h.r,λx a=>by have:=h.b x a;omega⟩
theorem RN.one{n:Nat}{x:Int}(h0:0<=x)(b:x<n):RN n [x]:=⟨by simp[jy],λy a=>by simp at a;subst a;exact⟨h0,b⟩⟩
theorem zmb{n:Nat}{a b:List Int}(e:n<=1000)(c:RN n a)(d:RN n b):Tn (λf=>Jn f a b) (λr=>RN n r/\∀x,x∈r↔x∈a\/x∈b):=ze4 e c d
def inT(em:List Bool)(al:List (List Int))(B:List Int)(t:Int):List ji->Prop
 |[]=>t∈B
 |x::l=>if x.1=true then t∈al.getD x.2.1.toNat []\/(em.getD x.2.1.toNat false=true/\inT em al B t l)else t=x.2.1
def foC(em:List Bool)(al B:List (List Int))(p:jh):Prop:=∀j x,p.2.1[j]?=some x->x.1=true->∀t,inT em al (B.getD p.1.toNat []) t (p.2.1.drop (j+1))->t∈B.getD x.2.1.toNat []
theorem z6n{B:List (List Int)}{z st:Nat}{u:List Int}{t:Int}(hz:z<B.length)(h:∀x∈B[z],x∈u)(a:t∈B.getD st []):t∈(B.set z u).getD st []:=by
 simp only[List.getD,wc8];split
 ·rename_i e;subst e;simp only[hz,if_true,wda];simp only[List.getD,wcf hz,wda]at a;exact h t a
 ·simpa [List.getD]using a
theorem zfq{em:List Bool}{al:List (List Int)}{B:List Int}{t:Int}:∀{its:List ji},inT em al B t its↔inF em al t its\/((∀x∈its,x.1=true/\em[x.2.1.toNat]?=some true)/\t∈B)
 |[]=>by simp[inT,inF]
 |x::l=>by
  have g:=zfq (em:=em) (al:=al) (B:=B) (t:=t) (its:=l);have f:em.getD x.2.1.toNat false=true↔em[x.2.1.toNat]?=some true:=by
   simp only[List.getD];cases em[x.2.1.toNat]? with
   |none=>simp
   |some b=>simp
  cases e:x.1 with
  |false=>
   simp only[inT,inF,e,wdp,if_false];constructor
   ·exact .inl
   ·rintro(h|⟨h,_⟩)
    ·exact h
    ·have:=(h x (by simp)).1;rw[e]at this;cases this
  |true=>
   simp only[inT,inF,e,if_true,f,g,wc1,forall_eq_or_imp,true_and];constructor
   ·rintro(h|⟨c,a|⟨a,d⟩⟩)
    ·exact .inl (.inl h)
    ·exact .inl (.inr ⟨c,a⟩)
    ·exact .inr ⟨⟨c,a⟩,d⟩
   ·rintro((h|⟨c,a⟩)|⟨⟨c,a⟩,d⟩)
    ·exact .inl h
    ·exact .inr ⟨c,.inl a⟩
    ·exact .inr ⟨c,.inr ⟨a,d⟩⟩
theorem z5u(g:jb)(A:Y1 g)(a:GOk g)(em:List Bool)(al B:List (List Int))(y:Tn (λi=>yl i g) (λr=>r=em))(d:em.length=g.2.1.length)(C:al.length=g.2.1.length)(m:∀l∈al,RN g.1.length l)(z:Tn (λi=>Jl i g) (λr=>r=some (em,al,())))(x:B.length=g.2.1.length)(j:∀l∈B,RN (g.1.length+1) l)
  (p:jh) (k:p∈g.2.2.1):Tn (λi=>ym i g B p) (λr=>RN (g.1.length+1) r/\∀t,t∈r↔inT em al (B.getD p.1.toNat []) t p.2.1):=by
 have I:=a.t;have D:=a.len p k;have e:=a.items p k;obtain⟨F,K⟩:=a.left p k;unfold ym;refine Waa (z58 g A a em al d C m z p.2.1 (by omega) e) waa λr⟨q,w⟩=>?_;refine Tt.J (λr=>RN (g.1.length+1) r/\∀t,t∈r↔inT em al (B.getD p.1.toNat []) t p.2.1) (λL f=>?_) (λs E=>Tt.pure E);refine Waa (jh1 g a em y d p.2.1 (by omega) e) waa λv o=>?_;refine wab (λc=>?_) (λc=>f _ ⟨q.up (by omega),λt=>?_⟩)
 ·have b:p.1.toNat<B.length:=by omega
  refine wac _ (Jo F (wcf b)) ?_;refine Waa (ze4 (n:=g.1.length+1) (by omega) (q.up (by omega)) (j _ (wcm b))) waa λu⟨G,H⟩=>f _ ⟨G,λt=>?_⟩;rw[H,w,zfq];have:B.getD p.1.toNat []=B[p.1.toNat]:=by simp[List.getD,b]
  rw[this];have:=o.1 c;constructor
  ·rintro(h|h)
   ·exact .inl h
   ·exact .inr ⟨this,h⟩
  ·rintro(h|⟨_,h⟩)
   ·exact .inl h
   ·exact .inr h
 ·rw[w,zfq];constructor
  ·exact .inl
  ·rintro(h|⟨h,_⟩)
   ·exact h
   ·have:=o.2 h;rw[c]at this;cases this
theorem jk0{α:Type}{b:Nat}{xs ys:List α}(h:(xs.length+ys.length)*b<=140737488355328)(a:xs.length+ys.length<=140737488355328):apO b xs ys=some (xs++ys):=by
 unfold apO;have c:xs.length+ys.length<=maxLen:=wdk a (by decide);simp only[c,h,decide_true,Bool.and_self]
theorem z83{α:Type}{b:Nat}{xs ys a:List α}(h:apO b xs ys=some a):xs.length+ys.length<=maxLen/\(xs.length+ys.length)*b<=140737488355328/\a=xs++ys:=za8 h
def zit{α:Type}(eqb:α->α->Bool)(b:Nat)(m:List (α×List Int))(k:α)(v:Int):Option (List (α×List Int)):=match kIx eqb k (m.map (·.1))with
 |some j=>match m[j]? with
  |some e=>(apO b e.2 [v]).map λa=>m.set j (e.1,a)
  |none=>none
 |none=>(apO b [] [v]).map λa=>m++[(k,a)]
def ple(a b:Int×Int):List Bool:=[a.1 == b.1,a.2 == b.2]
theorem plBeq(a b:Int×Int)(h:(ple a b).all id=true):a=b:=by
 cases a;cases b;simp only[ple,List.all_cons,List.all_nil,Bool.and_true,wcl,id,beq_iff_eq]at h;obtain⟨rfl,rfl⟩:=h;rfl
abbrev plq(a b:Int×Int):Bool:=(ple a b).all id
abbrev PM:=List ((Int×Int)×List Int)
def zjp(i left:Int):List Int->PM->Option PM
 |[],m=>some m
 |t::a,m=>(zit plq 8 m (left,t) i).bind (zjp i left a)
def zmh(pr:Nat->List Int):Nat->List Int->PM->Option PM
 |_,[],m=>some m
 |i,a::l,m=>(zjp i a (pr i) m).bind (zmh pr (i+1) l)
def ltP(a b:Int×Int):Prop:=a.1<b.1\/a.1=b.1/\a.2<b.2
instance (a b:Int×Int):Decidable (ltP a b):=by unfold ltP;infer_instance
def zld(a:(Int×Int)×Bool)(e:(Int×Int)×List Int):(Int×Int)×Bool:=if e.2.length<2\/a.2=true/\ltP a.1 e.1 then a else(e.1,true)
def Jd(m:PM):(Int×Int)×Bool:=m.foldl zld ((0,0),false)
def ClP(S:(Int×Int)×List Int->Prop)(r:(Int×Int)×Bool):Prop:=
 (r=((0,0),false)/\∀e,S e->e.2.length<2)\/(r.2=true/\(∃e,S e/\e.1=r.1/\2<=e.2.length)/\∀e,S e->2<=e.2.length->¬ltP e.1 r.1)
theorem jea{a b:Int×Int}(c:¬ltP a b)(d:¬ltP b a):a=b:=by
 unfold ltP at c d;obtain⟨e,f⟩:=a;obtain⟨g,h⟩:=b;simp only at c d;have i:e=g:=by omega
 have j:f=h:=by omega
 rw[i,j]
theorem ClP.step{S:(Int×Int)×List Int->Prop}{r:(Int×Int)×Bool}(h:ClP S r)(e:(Int×Int)×List Int):ClP (λx=>S x\/x=e) (zld r e):=by
 unfold zld;split
 ·rename_i a;rcases h with⟨rfl,h⟩|⟨d,⟨x,k,l,m⟩,f⟩
  ·have c:e.2.length<2:=by rcases a with a|⟨a,_⟩;exact a;cases a
   exact .inl ⟨rfl,λy b=>by rcases b with b|rfl;exact h y b;exact c⟩
  ·refine .inr ⟨d,⟨x,.inl k,l,m⟩,λy b c=>?_⟩;rcases b with b|rfl
   ·exact f y b c
   ·rcases a with a|⟨_,a⟩
    ·omega
    ·unfold ltP at a⊢;omega
 ·rename_i a;have c:2<=e.2.length:=by
   rcases Nat.lt_or_ge e.2.length 2 with h|h
   ·exact absurd (.inl h) a
   ·exact h
  refine .inr ⟨rfl,⟨e,.inr rfl,rfl,c⟩,λy b g=>?_⟩;rcases b with b|rfl
  ·rcases h with⟨rfl,h⟩|⟨d,_,f⟩
   ·have:=h y b;omega
   ·have i:=f y b g;have j:¬ltP r.1 e.1:=λh=>a (.inr ⟨d,h⟩);unfold ltP at i j⊢;simp only at i j⊢;omega
  ·unfold ltP;simp only;omega
theorem zfj(m:PM):ClP (λe=>e∈m) (Jd m):=by
 suffices ∀(l:PM)(S:(Int×Int)×List Int->Prop)(r:(Int×Int)×Bool),ClP S r->ClP (λe=>S e\/e∈l) (l.foldl zld r) by
  have h:=this m (λ_=>False) ((0,0),false) (.inl ⟨rfl,λe h=>h.elim⟩);have e:(λe=>False\/e∈m)=λe=>e∈m:=by funext e;simp
  rw[e]at h;exact h
 intro l;induction l with
 |nil=>
  intro S r h;have e:(λe=>S e\/e∈([]:PM))=S:=by funext e;simp
  rw[e];exact h
 |cons x l a=>
  intro S r h;have:=a _ _ (h.step x);have e:(λe=>S e\/e∈x::l)=λe=>(S e\/e=x)\/e∈l:=by funext e;simp[or_assoc]
  rw[e];exact this
def zog(b:PM)(a:Int×Int):Option Int:=(kIx plq a (b.map (·.1))).bind λj=>(b[j]?).bind λe=>e.2[1]?
def zjs(a:PM):Option ((Int×Int×Int)×Int):=match (Jd a).2 with
 |false=>some ((0,0,0), -1)
 |true=>(zog a (Jd a).1).map λz=>((15,(Jd a).1.1,(Jd a).1.2),z)
abbrev PE2:=(Int×Int)×List Int
def zjd(a:List (List Int))(e:PE2):List (List Int):=a.set e.1.1.toNat ((a.getD e.1.1.toNat []).set e.1.2.toNat (e.2.headD 0))
def zub(n w:Nat):List (List Int):=List.replicate n (List.replicate w (-1))
def jev(n w:Nat)(m:PM):List (List Int):=m.foldl zjd (zub n w)
def z2m(n w:Nat)(e:PE2):Prop:=0<=e.1.1/\e.1.1<n/\0<=e.1.2/\e.1.2<w/\e.2≠[]
structure Tab(n w:Nat)(S:PE2->Prop)(ll:List (List Int)):Prop where
 n:ll.length=n
 w:∀(r:Nat)(row:List Int),ll[r]?=some row->row.length=w
 c:∀(r t:Nat)(row:List Int)(z:Int),ll[r]?=some row->row[t]?=some z->(∃e,S e/\e.1=((r:Int),(t:Int))/\z=e.2.headD 0)\/((∀e,S e->e.1≠((r:Int),(t:Int)))/\z=-1)
theorem z48{n w r:Nat}{row:List Int}(h:(zub n w)[r]?=some row):row=List.replicate w (-1):=by
 unfold zub at h;rw[wdf]at h;split at h<;>cases h;rfl
theorem Tab.start(n w:Nat):Tab n w (λ_=>False) (zub n w):=by
 refine⟨by simp[zub],λr row h=>by rw[z48 h];simp,λr t row z b a=>?_⟩;rw[z48 b,wdf]at a;split at a<;>cases a;exact .inr ⟨λe h=>h.elim,rfl⟩
theorem Tab.step{n w:Nat}{S:PE2->Prop}{i:List (List Int)}(h:Tab n w S i){e:PE2}(u:z2m n w e):Tab n w (λx=>S x\/x=e) (zjd i e):=by
 obtain⟨y,A,B,C,_⟩:=u;have m:e.1.1.toNat<i.length:=by rw[h.n];omega
 have v:i.getD e.1.1.toNat []=i[e.1.1.toNat]:=by simp[List.getD,m]
 have o:(i[e.1.1.toNat]).length=w:=h.w _ _ (wcf m);unfold zjd;rw[v];refine⟨by simpa using h.n,λr row a=>?_,λr t row z a hz=>?_⟩
 ·rw[wc8]at a;split at a
  ·(first|(split at a<;>cases a)|cases a)
   rw[web,o]
  ·exact h.w r row a
 ·rw[wc8]at a;split at a
  ·rename_i k
   (first|(split at a<;>cases a)|cases a)
   rw[wc8]at hz;split at hz
   ·rename_i p
    (first|(split at hz<;>cases hz)|cases hz)
    refine .inl ⟨e,.inr rfl,?_,rfl⟩;have q:e.1.1=(r:Int):=by omega
    have s:e.1.2=(t:Int):=by omega
    rw[<- q,<- s]
   ·rename_i p;have f:e.1≠((r:Int),(t:Int)):=λh=>p (by rw[h];simp);rcases h.c r t _ z (by rw[<- k];exact wcf m) hz with⟨j,b,d,l⟩|⟨b,d⟩
    ·exact .inl ⟨j,.inl b,d,l⟩
    ·exact .inr ⟨λx g=>by rcases g with g|rfl;exact b x g;exact f,d⟩
  ·rename_i k;have f:e.1≠((r:Int),(t:Int)):=λh=>k (by rw[h];simp);rcases h.c r t row z a hz with⟨j,b,d,l⟩|⟨b,d⟩
   ·exact .inl ⟨j,.inl b,d,l⟩
   ·exact .inr ⟨λx g=>by rcases g with g|rfl;exact b x g;exact f,d⟩
theorem jgn{n w:Nat}{m:PM}(a:∀e∈m,z2m n w e):Tab n w (λe=>e∈m) (jev n w m):=by
 suffices ∀(l:PM)(S:PE2->Prop)(b:List (List Int)),(∀e∈l,z2m n w e)->Tab n w S b->Tab n w (λe=>S e\/e∈l) (l.foldl zjd b) by
  have h:=this m (λ_=>False) (zub n w) a (Tab.start n w);have e:(λe=>False\/e∈m)=λe=>e∈m:=by funext e;simp
  rw[e]at h;exact h
 intro l;induction l with
 |nil=>
  intro S b _ h;have e:(λe=>S e\/e∈([]:PM))=S:=by funext e;simp
  rw[e];exact h
 |cons x l d=>
  intro S b a h;have:=d _ _ (λe c=>a e (by simp[c])) (h.step (a x (by simp)));have e:(λe=>S e\/e∈x::l)=λe=>(S e\/e=x)\/e∈l:=by funext e;simp[or_assoc]
  rw[e];exact this
abbrev uc(e:(Int×Int)×List Int):je×List Int×Unit:=((e.1.1,e.1.2,()),e.2,())
abbrev um(m:PM):List (je×List Int×Unit):=m.map uc
theorem ja9(a b:Int):∀(m:PM),kIx zex (a,b,()) ((um m).map λe=>e.1)=kIx plq (a,b) (m.map (·.1))
 |[]=>rfl
 |e::m=>by
  have h:zex (a,b,()) (uc e).1=plq (a,b) e.1:=rfl;simp only[um,wc4,kIx,h];have:=ja9 a b m;unfold um at this;rw[this]
theorem z7r{m:PM}{j:Nat}:(um m)[j]?=(m[j]?).map uc:=by simp[um]
theorem z4k{m:PM}{j:Nat}{e:(Int×Int)×List Int}(h:m[j]?=some e):atL ((um m).map λe=>e.2.1) (j:Int)=some e.2:=z29 (e:=uc e) (by rw[z7r,h];rfl)
theorem jh2{m:PM}{j:Nat}{e:(Int×Int)×List Int}:(um m).set j (uc e)=um (m.set j e):=by
 unfold um;rw[List.map_set]
theorem jhu{β:Type}(m:PM)(a b v:Int)(F:List (je×List Int×Unit)->Option β):(ja (z8o zex (a,b,()) (um m)) λz=>ja (ja (atL (z.2.map λe=>e.2.1) (z.1:Int)) λg=>apO 8 g [v]) λh=>ja (z0a z.2 ((z.1:Int).toNat) (z.1:Int) h) F)=ja (zit plq 8 m (a,b) v) λn=>F (um n):=by
 unfold z8o zit;rw[ja9];cases l:kIx plq (a,b) (m.map (·.1))with
 |none=>
  have i:(um m++[((a,b,()),[],())]:List (je×List Int×Unit))=um (m++[((a,b),[])]):=by simp[um]
  have d:(m++[((a,b),([]:List Int))])[m.length]?=some ((a,b),[]):=by simp
  have k:(um m).length=m.length:=by simp[um]
  simp only[ja,i,k,z4k d,wcx];cases apO 8 [] [v]with
  |none=>rfl
  |some z=>
   simp only[wc3];unfold z0a;simp only[decide_true,z7r,d,wc3];rw[jh2 (e:=((a,b),z))];simp
 |some j=>
  obtain⟨x,f,o⟩:=zar l;rw[wcp]at f;obtain⟨e,c,rfl⟩:=wcs.1 f;simp only[ja,c,z4k c,wcx];cases apO 8 e.2 [v]with
  |none=>rfl
  |some z=>
   simp only[wc3];unfold z0a;simp only[decide_true,z7r,c,wc3];rw[jh2 (e:=(e.1,z))]
def uS(s:(Int×Int)×Bool):Bool×je:=(s.2,(s.1.1,s.1.2,()))
theorem cstp_u(e:(Int×Int)×List Int)(s:(Int×Int)×Bool):zk1 (uc e) (uS s)=uS (zld s e):=by
 obtain⟨⟨a,b⟩,l⟩:=e;obtain⟨⟨x,y⟩,i⟩:=s;unfold zk1 zld ltP uS;simp only;split<;>rfl
theorem z0m{β:Type}(d:Nat)(r:je)(fin:(Bool×(List (je×(List Int)×Unit))×je×je×(List Bool))->Option β)(m:PM):∀(k j:Nat)(s:(Int×Int)×Bool)(mk:List Bool),j+k=m.length->mk.length=m.length->∃a,zz5 (qr d) fin k j ((uS s).1,um m,r,(uS s).2,mk)=fin ((uS ((m.drop j).foldl zld s)).1,um m,r,(uS ((m.drop j).foldl zld s)).2,a)
 |0,j,s,mk,e,c=>⟨mk,by rw[wdu (by omega)];rfl⟩
 |k+1,j,s,mk,e,c=>by
  have b:j<m.length:=by omega
  obtain⟨a,h⟩:=z0m d r fin m k (j+1) (zld s m[j]) (mk.set j true) (by omega) (by simpa using c);refine⟨a,?_⟩;rw[wc0 b,List.foldl_cons,<- h];show ja (qr d j _) _=_;rw[zhr,zau (by simp[um,c]),z7r,wcf b];simp only[wc3,ja];rw[show((uS s).1,(uS s).2)=uS s from rfl,cstp_u]
theorem jcw{m:PM}(h:(m.map (·.1)).Nodup):z2r (eqD jr) ((um m).map λe=>e.1)=true:=by
 induction m with
 |nil=>rfl
 |cons e m i=>
  rw[wc4,wfl]at h;show(List.all _ _ && z2r _ _)=true;rw[wcl];refine⟨wdx.2 λy g=>?_,i h.2⟩;obtain⟨z,hz,rfl⟩:=wcz.1 g;obtain⟨w,f,rfl⟩:=wcz.1 hz;have c:e.1≠w.1:=λd=>h.1 (by rw[d];exact wcz.2 ⟨w,f,rfl⟩);have:¬(e.1.1=w.1.1/\e.1.2=w.1.2):=λ⟨b,a⟩=>c (Prod.ext b a);show(!(decide (e.1.1=w.1.1) && (decide (e.1.2=w.1.2) && true)))=true;by_cases b:e.1.1=w.1.1
  ·have a:e.1.2≠w.1.2:=λa=>this ⟨b,a⟩;simp[a]
  ·simp[b]
theorem jdl{β:Type}(d:Nat)(r:je)(fin:(Bool×(List (je×(List Int)×Unit))×je×je×(List Bool))->Option β){m:PM}(h:(m.map (·.1)).Nodup):∃a,znf Ja (qr d) fin (false,um m,r,(0,0,()),List.replicate (um m).length false)=fin ((Jd m).2,um m,r,((Jd m).1.1,(Jd m).1.2,()),a):=by
 obtain⟨a,b⟩:=z0m d r fin m m.length 0 ((0,0),false) (List.replicate (um m).length false) (by omega) (by simp[um]);refine⟨a,?_⟩;rw[List.drop_zero]at b;have:(uS (m.foldl zld ((0,0),false)))=((Jd m).2,((Jd m).1.1,(Jd m).1.2,())):=rfl;rw[this]at b;rw[<- b];unfold znf;have c:zsi ⟨3,1,0,1,jr,3,I6,um m,0,List.replicate (um m).length false⟩=true:=by
  unfold zsi;simp only[wch,wev,wea,wcl];exact⟨by simp,jcw h⟩
 show(match zsi _ with|true=>zz5 (qr d) fin (um m).length 0 _|false=>none)=_;rw[c];simp only[um,wcv];rfl
theorem zus{a b:Int×Int}:plq a b=true↔a=b:=⟨plBeq a b,λh=>by subst h;simp[plq,ple]⟩
theorem zxo{k:Int×Int}:∀{b:List (Int×Int)},kIx plq k b=none->k∉b
 |[],_=>by simp
 |e::f,h=>by
  unfold kIx at h;split at h
  ·cases h
  ·rename_i c;have:=zxo (Option.map_eq_none_iff.1 h);intro d;rcases wc1.1 d with a|a
   ·exact c (zus.2 a)
   ·exact this a
structure z80(C:Int×Int->Int->Prop)(c:Nat)(m:PM):Prop where
 nd:(m.map (·.1)).Nodup
 ne:∀e∈m,e.2≠[]
 len:∀e∈m,e.2.length<=c
 says:∀e∈m,∀i∈e.2,C e.1 i
def zlf(m:PM)(a:Int×Int)(i:Int):Prop:=∃e∈m,e.1=a/\i∈e.2
theorem add_ok{C:Int×Int->Int->Prop}{c:Nat}{m:PM}{a:Int×Int}{v:Int}(h:z80 C c m)(G:c<=1000000)(B:C a v):∃w,zit plq 8 m a v=some w/\z80 C (c+1) w/\zlf w a v/\∀b i,zlf m b i->zlf w b i:=by
 unfold zit;cases A:kIx plq a (m.map (·.1))with
 |none=>
  have p:=zxo A;rw[jk0 (by simp) (by simp)];refine⟨m++[(a,[v])],rfl,⟨?_,?_,?_,?_⟩,⟨(a,[v]),by simp,rfl,by simp⟩,?_⟩
  ·rw[wdb,wfu];refine⟨h.nd,by simp,λx u y g=>?_⟩;simp at g;subst g;intro e;subst e;exact p u
  ·intro e f;rcases wco.1 f with d|d
   ·exact h.ne e d
   ·simp at d;subst d;simp
  ·intro e f;rcases wco.1 f with d|d
   ·have:=h.len e d;omega
   ·simp at d;subst d;simp
  ·intro e f;rcases wco.1 f with d|d
   ·exact h.says e d
   ·simp at d;subst d;intro i t;simp at t;subst t;exact B
  ·rintro b i ⟨e,f,F,z⟩;exact⟨e,by simp[f],F,z⟩
 |some j=>
  obtain⟨x,u,f⟩:=zar A;have f:=zus.1 f;subst f;rw[wcp]at u;obtain⟨e,o,r⟩:=wcs.1 u;have l:=wck o;have k:=(wcg.1 o).1;have H:=h.len e l;simp only[o];rw[jk0 (by simp;omega) (by simp;omega)];refine⟨m.set j (e.1,e.2++[v]),rfl,⟨?_,?_,?_,?_⟩,⟨(e.1,e.2++[v]),wck (i:=j) (by rw[wc8];simp[k]),r,by simp⟩,?_⟩
  ·have:(m.set j (e.1,e.2++[v])).map (·.1)=m.map (·.1):=by
    rw[List.map_set];apply wee;intro i;rw[wc8];split
    ·rename_i z;subst z;simp only[wcv,k,if_true];rw[wcp,o];rfl
    ·rfl
   rw[this];exact h.nd
  ·intro y g;rcases wd9 g with d|d
   ·exact h.ne y d
   ·subst d;simp
  ·intro y g;rcases wd9 g with d|d
   ·have:=h.len y d;omega
   ·subst d;simp;omega
  ·intro y g;rcases wd9 g with d|d
   ·exact h.says y d
   ·subst d;intro i t;rcases wco.1 t with s|s
    ·exact h.says e l i s
    ·simp at s;subst s;simp only;rw[r];exact B
  ·rintro b i ⟨y,g,D,E⟩;obtain⟨n,p⟩:=wdc g;by_cases q:j=n
   ·subst q;rw[o]at p;cases p;exact⟨(e.1,e.2++[v]),wck (i:=j) (by rw[wc8];simp[k]),D,by simp[E]⟩
   ·exact⟨y,wck (i:=n) (by rw[wc8,if_neg q];exact p),D,E⟩
theorem z12{C:Int×Int->Int->Prop}{i left:Int}:∀{ts:List Int}{c:Nat}{m:PM},z80 C c m->c+ts.length<=1000000->(∀t∈ts,C (left,t) i)->∃d,zjp i left ts m=some d/\z80 C (c+ts.length) d/\(∀t∈ts,zlf d (left,t) i)/\∀b j,zlf m b j->zlf d b j
 |[],c,m,h,_,_=>⟨m,rfl,h,by simp,λ_ _ h=>h⟩
 |t::ts,c,m,h,r,g=>by
  simp only[wdy]at r;obtain⟨z,l,n,o,p⟩:=add_ok (a:=(left,t)) (v:=i) h (by omega) (g t (by simp));obtain⟨y,s,u,w,k⟩:=z12 (ts:=ts) n (by omega) λx f=>g x (by simp[f]);refine⟨y,by simp only[zjp,l,wdr,s],by rw[show c+(t::ts).length=c+1+ts.length by simp;omega];exact u,λx f=>?_,λb j q=>k b j (p b j q)⟩;rcases wc1.1 f with e|e
  ·subst e;exact k _ _ o
  ·exact w x e
theorem z2p{C:Int×Int->Int->Prop}{pr:Nat->List Int}{W:Nat}(s:∀i,(pr i).length<=W):∀{ls:List Int}{i c:Nat}{m:PM},z80 C c m->c+W*ls.length<=1000000->(∀k l,ls[k]?=some l->∀t∈pr (i+k),C (l,t) ((i+k:Nat):Int))->∃o,zmh pr i ls m=some o/\z80 C (c+W*ls.length) o/\(∀k l,ls[k]?=some l->∀t∈pr (i+k),zlf o (l,t) ((i+k:Nat):Int))/\∀b j,zlf m b j->zlf o b j
 |[],i,c,m,h,_,_=>⟨m,rfl,h,by simp,λ_ _ h=>h⟩
 |a::ls,i,c,m,h,z,r=>by
  have F:=s i;simp only[wdy,Nat.mul_add,wf1]at z;obtain⟨D,v,g,w,x⟩:=z12 (i:=(i:Int)) (left:=a) (ts:=pr i) h (by omega) λt d=>by simpa using r 0 a rfl t (by simpa using d)
  have p:z80 C (c+W) D:=⟨g.nd,g.ne,λe q=>by have:=g.len e q;omega,g.says⟩
  obtain⟨E,A,n,B,u⟩:=z2p s (ls:=ls) (i:=i+1) p (by omega) λk l f t d=>by
   have:=r (k+1) l (by simpa using f) t (by simpa [we0,wfr 1 k]using d);simpa [we0,wfr 1 k]using this
  refine⟨E,by simp only[zmh,v,wdr,A],⟨n.nd,n.ne,λe q=>by have:=n.len e q;simp only[wdy,Nat.mul_add,wf1];omega,n.says⟩,λk l f t d=>?_,λb j y=>u b j (x b j y)⟩;cases k with
  |zero=>
   simp at f;subst f;exact u _ _ (by simpa using w t (by simpa using d))
  |succ k=>
   have:=B k l (by simpa using f) t (by simpa [we0,wfr 1 k]using d);simpa [we0,wfr 1 k]using this
theorem wbh{ι α:Type}{D:Fi ι}{f g:ι->Option α}{Q:α->Prop}(h:∀i,f i=g i)(a:Tt D g Q):Tt D f Q:=by
 have:f=g:=funext h;rw[this];exact a
structure z6q(g:jb)(beh rows:List (List Int))(m:PM):Prop where
 f:Tn (λnn=>Vc nn g) (λr=>r=beh)
 len:rows.length=g.2.2.1.length
 pr:∀(k:Nat)(p:jh)(l:List Int),g.2.2.1[k]?=some p->rows[k]?=some l->Tn (λnn=>ym nn g beh p) (λr=>r=l)
 bnd:g.2.2.1.length<=1000000/\∀l∈rows,l.length<=1000000
 go:zmh (λi=>rows.getD i []) 0 (g.2.2.1.map (·.1)) []=some m
theorem jdi{α:Type}{R:α->List Int->Prop}:∀{ps:List α},(∀p∈ps,∃l,R p l)->∃rows:List (List Int),rows.length=ps.length/\∀(k:Nat)(p:α)(l:List Int),ps[k]?=some p->rows[k]?=some l->R p l
 |[],_=>⟨[],rfl,λk p l h=>by simp at h⟩
 |p::ps,h=>by
  obtain⟨l,e⟩:=h p (by simp);obtain⟨rows,c,d⟩:=jdi (ps:=ps) λq b=>h q (by simp[b]);refine⟨l::rows,by simp[c],λk q f b a=>?_⟩;cases k with
  |zero=>simp at b a;subst b;subst a;exact e
  |succ k=>exact d k q f (by simpa using b) (by simpa using a)
theorem jcf{β:Type}{g:jb}{t rows:List (List Int)}{m:PM}(L:z6q g t rows m){Q:β->Prop}(A:Nat->List (je×(List Int)×Unit)->Option β)(hA:Tn (λG=>A G (um m)) Q):
  Tn (λG=>jn (σ:=(List (List Int))×(List jh)×Int×Int×jb×(List (je×(List Int)×Unit))) (λ(c,d,e,f,g,h)i=>ifB (decide (f<e)) (ja (atL d f) λj=>ja (ym G g c j) λk=>jn (σ:=(List (List Int))×Int×(List jh)×Int×Int×(List Int)×Int×Int×jb×(List (je×(List Int)×Unit))×jh) (λ(l,m,n,o,p,q,r,s,u,v,w)x=>ifB (decide (s<r)) (ja (atL q s) λy=>ja (z8o zex (w.1,y,()) v) λz=>ja (ja (atL (z.2.map λe=>e.2.1) (z.1:Int)) λU=>apO 8 U [m]) λV=>ja (z0a z.2 ((z.1:Int).toNat) (z.1:Int) V) λW=>ja (some (w64 (s+1))) λX=>x (l,m,n,o,p,q,r,X,u,W,w)) (ja (some (w64 (p+1))) λY=>i (l,n,o,Y,u,v))) G (c,f,d,e,f,k,(k.length:Int),0,g,h,j)) (A G h)) G (t,g.2.2.1,(g.2.2.1.length:Int),0,g,([]:List (je×List Int×Unit)))) Q:=by
 have hb:=L.bnd.1;refine Tt.loop (λk st=>∃(n:Nat)(M:PM),st=(t,g.2.2.1,(g.2.2.1.length:Int),(n:Int),g,um M)/\n<=g.2.2.1.length/\k=g.2.2.1.length-n/\zmh (λi=>rows.getD i []) n ((g.2.2.1.map (·.1)).drop n) M=some m) g.2.2.1.length waa ⟨0,[],rfl,wem _,rfl,by rw[List.drop_zero];exact L.go⟩ ?_;rintro k _ ⟨n,M,rfl,hn,rfl,C⟩ nx P;dsimp only;refine wab (λO=>?_) λO=>?_
 ·have a:n<g.2.2.1.length:=by have:=wcd O;omega
  have F:n<rows.length:=by rw[L.len];exact a
  have Z:(g.2.2.1.map (·.1)).drop n=(g.2.2.1[n]).1::(g.2.2.1.map (·.1)).drop (n+1):=by rw[wc0 (by simpa using a)];simp
  have J:rows.getD n []=rows[n]:=by simp[List.getD,F]
  have a3:(rows[n]).length<=1000000:=L.bnd.2 _ (wcm F);rw[Z]at C;obtain⟨R,S,H⟩:=wdm.1 (show(zjp (n:Int) (g.2.2.1[n]).1 (rows.getD n []) M).bind _=some m from C);rw[J]at S;refine wac _ (atN a) ?_;refine Waa (L.pr n _ _ (wcf a) (wcf F)) waa.fst λts K=>?_;subst K;refine Tt.loop (φ:=λp:Nat×Nat=>p.1) (λk st=>∃(s:Nat)(N:PM),st=(t,(n:Int),g.2.2.1,(g.2.2.1.length:Int),(n:Int),rows[n],((rows[n]).length:Int),(s:Int),g,um N,g.2.2.1[n])/\s<=(rows[n]).length/\k=(rows[n]).length-s/\zjp (n:Int) (g.2.2.1[n]).1 ((rows[n]).drop s) N=some R) (rows[n]).length waa.fst ⟨0,M,rfl,wem _,rfl,by rw[List.drop_zero];exact S⟩ ?_;rintro k2 _ ⟨s,N,rfl,hs,rfl,B⟩ a4 I;dsimp only;refine wab (λD=>?_) λD=>?_
  ·have b:s<(rows[n]).length:=by have:=wcd D;omega
   refine wac _ (atN b) ?_;refine wbh (λi=>jhu N _ _ _ _) ?_;rw[wc0 b]at B;obtain⟨T,h4,h5⟩:=wdm.1 (show(zit plq 8 N ((g.2.2.1[n]).1,(rows[n])[s]) (n:Int)).bind _=some R from B);refine wac T h4 (wad ?_);rw[show w64 ((s:Int)+1)=((s+1:Nat):Int) by rw[zrg (by omega) (by omega)];omega];exact I _ _ (by omega) ⟨s+1,T,rfl,b,rfl,h5⟩
  ·have E:s=(rows[n]).length:=by have:=wce D;omega
   subst E;rw[wd3]at B;cases B;refine wad ?_;rw[show w64 ((n:Int)+1)=((n+1:Nat):Int) by rw[zrg (by omega) (by omega)];omega];exact Tt.fst (P _ _ (by omega) ⟨n+1,R,rfl,a,rfl,H⟩)
 ·have E:n=g.2.2.1.length:=by have:=wce O;omega
  subst E;rw[wdu (by simp)]at C;cases C;exact Tt.fst hA
theorem Tt.val{ι α:Type}{D:Fi ι}{f:ι->Option α}{Q:α->Prop}(h:Tt D f Q):∃r,Tt D f (λx=>x=r)/\Q r:=let ⟨r,a,b⟩:=h;⟨r,⟨r,a,rfl⟩,b⟩
structure Kn(g:jb)(em re:List Bool)(al B:List (List Int)):Prop where
 hE:Tn (λnn=>yl nn g) (λr=>r=em)
 hel:em.length=g.2.1.length
 emc:∀p∈g.2.2.1,emC em p
 hRe:Tn (λnn=>yy nn g) (λr=>r=re)
 hrl:re.length=g.2.1.length
 rest:re[g.2.2.2.1.toNat]?=some true
 recl:∀p∈g.2.2.1,reC re p
 hK:Tn (λnn=>Jl nn g) (λr=>r=some (em,al,()))
 hl:al.length=g.2.1.length
 hrn:∀l∈al,RN g.1.length l
 fic:∀p∈g.2.2.1,fiC em al p
 hF:Tn (λnn=>Vc nn g) (λr=>r=B)
 hBl:B.length=g.2.1.length
 hBr:∀l∈B,RN (g.1.length+1) l
 hBe:(g.1.length:Int)∈B.getD g.2.2.2.1.toNat []
 foc:∀p∈g.2.2.1,re[p.1.toNat]?=some true->foC em al B p
def plC(g:jb)(em:List Bool)(al B:List (List Int))(a:Int×Int)(i:Int):Prop:=∃(k:Nat)(p:jh),i=(k:Int)/\g.2.2.1[k]?=some p/\a.1=p.1/\0<=a.2/\a.2<(g.1.length:Int)+1/\inT em al (B.getD p.1.toNat []) a.2 p.2.1
structure z67(g:jb)(em:List Bool)(al B:List (List Int))(m:PM):Prop where
 pm:z80 (plC g em al B) 1000000 m
 has:∀(k:Nat)(p:jh),g.2.2.1[k]?=some p->∀t,inT em al (B.getD p.1.toNat []) t p.2.1->zlf m (p.1,t) (k:Int)
theorem z6j{g:jb}{em re:List Bool}{al B:List (List Int)}(E:Y1 g)(n:GOk g)(h:Kn g em re al B):∃rows m,z6q g B rows m/\(∀l∈rows,RN (g.1.length+1) l)/\z67 g em al B m:=by
 have o:=n.t;have a:=n.p;obtain⟨rows,w,v⟩:=jdi (ps:=g.2.2.1) (R:=λp l=>Tn (λG=>ym G g B p) (λr=>r=l)/\RN (g.1.length+1) l/\∀t,t∈l↔inT em al (B.getD p.1.toNat []) t p.2.1) λp a=>(z5u g E n em al B h.hE h.hel h.hl h.hrn h.hK h.hBl h.hBr p a).val;have d:∀l∈rows,RN (g.1.length+1) l:=λl j=>by
  obtain⟨i,u⟩:=wdc j;have F:=(wcg.1 u).1;exact(v i _ l (wcf (by omega)) u).2.1
 have f:∀(k:Nat)(p:jh),g.2.2.1[k]?=some p->RN (g.1.length+1) (rows.getD k [])/\∀t,t∈rows.getD k []↔inT em al (B.getD p.1.toNat []) t p.2.1:=λk p a=>by
  have q:k<rows.length:=by rw[w];exact(wcg.1 a).1
  have e:rows.getD k []=rows[k]:=by simp[List.getD,q]
  rw[e];exact(v k p _ a (wcf q)).2
 obtain⟨m,z,s,A,_⟩:=z2p (C:=plC g em al B) (pr:=λi=>rows.getD i []) (W:=65) (λi=>by
  simp only[List.getD];cases u:rows[i]? with
  |none=>simp
  |some l=>have:=(d l (wck u)).len;simp only[wda];omega) (ls:=g.2.2.1.map (·.1)) (i:=0) (c:=0) (m:=[]) ⟨by simp,by simp,by simp,by simp⟩ (by simp;omega) (λk l j t o=>by
   rw[wcp]at j;obtain⟨p,a,rfl⟩:=wcs.1 j;rw[wdo]at o⊢;obtain⟨x,y⟩:=f k p a;have:=x.b t o;exact⟨k,p,rfl,a,rfl,this.1,by have:=this.2;simp only;omega,(y t).1 o⟩)
 refine⟨rows,m,⟨h.hF,w,λk p l a j=>(v k p l a j).1,⟨by omega,λl j=>by have:=(d l j).len;omega⟩,z⟩,d,⟨s.nd,s.ne,λe D=>?_,s.says⟩,λk p a t o=>?_⟩
 ·have:=s.len e D;simp at this;omega
 ·have:=A k p.1 (by rw[wcp,a];rfl) t (by rw[wdo];exact((f k p a).2 t).2 o);rwa [wdo]at this
def NC(g:jb)(em:List Bool)(al B:List (List Int)):Prop:=∀(k b:Nat)(p a:jh),g.2.2.1[k]?=some p->g.2.2.1[b]?=some a->p.1=a.1->∀t,inT em al (B.getD p.1.toNat []) t p.2.1->inT em al (B.getD a.1.toNat []) t a.2.1->k=b
theorem zj1{α β:Type}{f:α->β}:∀{l:List α},(l.map f).Nodup->∀{x y:α},x∈l->y∈l->f x=f y->x=y
 |[],_,x,y,d,_,_=>by cases d
 |a::l,h,x,y,d,g,e=>by
  rw[wc4,wfl]at h;rcases wc1.1 d with c|c
  ·rcases wc1.1 g with b|b
   ·rw[c,b]
   ·exact absurd (by rw[<- c,e];exact wcz.2 ⟨y,b,rfl⟩) h.1
  ·rcases wc1.1 g with b|b
   ·exact absurd (by rw[<- b,<- e];exact wcz.2 ⟨x,c,rfl⟩) h.1
   ·exact zj1 h.2 c b e
theorem nc_of{g:jb}{em:List Bool}{al B:List (List Int)}{m:PM}(h:z67 g em al B m)(s:(Jd m).2=false):NC g em al B:=by
 intro k v p w u f e t q r;obtain⟨x,n,z,d⟩:=h.has k p u t q;obtain⟨y,A,C,o⟩:=h.has v w f t r;have j:=zj1 h.pm.nd n A (by rw[z,C,e]);subst j;rcases zfj m with⟨_,c⟩|⟨c,_⟩
 ·have:=c x n
  match i:x.2 with
  |[]=>rw[i]at d;cases d
  |[a]=>
   rw[i]at d o;simp at d o;omega
  |a::b::l=>rw[i]at this;simp at this;omega
 ·rw[s]at c;cases c
theorem jbo{g:jb}{em:List Bool}{al B:List (List Int)}{m:PM}(h:z67 g em al B m):∃r,zjs m=some r/\(r.1.1=0->NC g em al B):=by
 unfold zjs;cases a:(Jd m).2 with
 |false=>exact⟨_,rfl,λ_=>nc_of h a⟩
 |true=>
  rcases zfj m with⟨n,_⟩|⟨_,⟨e,d,f,o⟩,_⟩
  ·rw[n]at a;cases a
  ·have:∃z,zog m (Jd m).1=some z:=by
    unfold zog;cases k:kIx plq (Jd m).1 (m.map (·.1))with
    |none=>exact absurd (by rw[<- f];exact wcz.2 ⟨e,d,rfl⟩) (zxo k)
    |some j=>
     obtain⟨x,l,b⟩:=zar k;have b:=zus.1 b;rw[wcp]at l;obtain⟨p,i,c⟩:=wcs.1 l;have:=zj1 h.pm.nd (wck i) d (by rw[f,b];exact c);subst this;simp only[wdr,i];exact⟨_,wcf o⟩
   obtain⟨z,hz⟩:=this;exact⟨_,by rw[hz];rfl,λh=>by cases h⟩
theorem jnv{m:PM}{a:Int×Int}:kIx zex (a.1,a.2,()) ((um m).map λe=>e.1)=kIx plq a (m.map (·.1)):=ja9 a.1 a.2 m
theorem jnw{g:jb}{i rows:List (List Int)}{m:PM}{r:(Int×Int×Int)×Int}(B:GR g)(t:z6q g i rows m)(E:(m.map (·.1)).Nodup)(c:zjs m=some r):Tn (λd=>Jp d g) (λx=>x=((r.1.1,r.1.2.1,r.1.2.2,()),r.2,())):=by
 unfold Jp zef;refine Waa B waa λb o=>?_;subst o;refine wae rfl (Waa t.f waa λb o=>?_);subst o;refine jcf t (λd h=>znf Ja (qr d) _ (false,h,(0,0,()),(0,0,()),List.replicate h.length false)) ?_
 let a:(Bool×(List (je×(List Int)×Unit))×je×je×(List Bool))->Option (jd×Int×Unit):=λ(u,l,G,n,H)=>ifB (!u) (some ((0,0,0,()),(-1),())) (ja (kIx zex n (l.map λe=>e.1)) λp=>ja (ja (atL (l.map λe=>e.2.1) (p:Int)) λv=>jw v.length 1) λw=>ja (ja (atL (l.map λe=>e.2.1) (p:Int)) λy=>atL y w) λA=>some ((15,n.1,n.2.1,()),A,()))
 refine wbh (g:=λ_=>a ((Jd m).2,um m,(0,0,()),((Jd m).1.1,(Jd m).1.2,()),[])) (λd=>by
  obtain⟨F,e⟩:=jdl d (0,0,()) a E;exact e) ?_
 show Tt way (λ_=>ifB (!(Jd m).2) _ _) _;unfold zjs at c;cases q:(Jd m).2 with
 |false=>
  rw[q]at c;cases c;exact wah rfl (Tt.pure rfl)
 |true=>
  rw[q]at c;obtain⟨z,hz,rfl⟩:=wcs.1 c;unfold zog at hz;obtain⟨j,C,hz⟩:=wdm.1 hz;obtain⟨e,s,hz⟩:=wdm.1 hz;have D:=(wcg.1 hz).1;refine wae rfl (wac j (by rw[jnv];exact C) ?_);refine wac (1:Int) (by rw[z4k s];exact qv (k:=1) D) (wac z (by rw[z4k s];exact Jo (z:=1) (by decide) hz) (Tt.pure rfl))
theorem z2l{β:Type}(o:Nat)(fin:((List (List Int))×(List Bool)×(List (je×(List Int)×Unit)))->Option β){n w:Nat}{m:PM}(hm:∀e∈m,z2m n w e):∀(k j:Nat)(out:List (List Int))(mk:List Bool),j+k=m.length->mk.length=m.length->out.length=n->(∀row∈out,row.length=w)->∃d,zz5 (qi o) fin k j (out,mk,um m)=fin ((m.drop j).foldl zjd out,d,um m)
 |0,j,out,mk,t,_,_,_=>⟨mk,by rw[wdu (by omega)];rfl⟩
 |k+1,j,out,mk,t,f,u,q=>by
  have c:j<m.length:=by omega
  obtain⟨x,A,y,B,z⟩:=hm _ (wcm c);have i:(m[j]).1.1.toNat<out.length:=by omega
  have b:=q _ (wcm i);obtain⟨v,l,g⟩:∃v l,(m[j]).2=v::l:=by
   cases s:(m[j]).2 with
   |nil=>exact absurd s z
   |cons v l=>exact⟨v,l,rfl⟩
  have p:zjd out m[j]=out.set (m[j]).1.1.toNat ((out[(m[j]).1.1.toNat]).set (m[j]).1.2.toNat v):=by
   unfold zjd;rw[g];simp[List.getD,i]
  have a:(zjd out m[j]).length=n/\∀row∈zjd out m[j],row.length=w:=by
   rw[p];refine⟨by simpa using u,λrow h=>?_⟩;rcases wd9 h with h|h
   ·exact q row h
   ·subst h;simpa using b
  obtain⟨d,h⟩:=z2l o fin hm k (j+1) (zjd out m[j]) (mk.set j true) (by omega) (by simpa using f) a.1 a.2;refine⟨d,?_⟩;rw[wc0 c,List.foldl_cons,<- h];show ja (qi o j _) _=_;rw[zh2,zau (by simp[um,f]),z7r,wcf c];simp only[wc3,ja,g];have r:atL (v::l) 0=some v:=rfl;simp only[r];rw[zoc (wcf i) x y (by rw[b];omega),p]
theorem joj{β:Type}(c:Nat)(fin:((List (List Int))×(List Bool)×(List (je×(List Int)×Unit)))->Option β){n w:Nat}{m:PM}(hm:∀e∈m,z2m n w e)(h:(m.map (·.1)).Nodup):∃a,znf yw (qi c) fin (zub n w,List.replicate (um m).length false,um m)=fin (jev n w m,a,um m):=by
 obtain⟨a,d⟩:=z2l c fin hm m.length 0 (zub n w) (List.replicate (um m).length false) (by omega) (by simp[um]) (by simp[zub]) (λrow g=>by
  obtain⟨i,f⟩:=wdc g;rw[z48 f];simp)
 refine⟨a,?_⟩;rw[List.drop_zero]at d;rw[show jev n w m=m.foldl zjd (zub n w)from rfl,<- d];unfold znf;have b:zsi ⟨1,1,2,1,jr,3,I6,um m,0,List.replicate (um m).length false⟩=true:=by
  unfold zsi;simp only[wch,wev,wea,wcl];exact⟨by simp,jcw h⟩
 show(match zsi _ with|true=>zz5 (qi c) fin (um m).length 0 _|false=>none)=_;rw[b];simp only[um,wcv]
def jh6(g:jb)(m:PM):Prop:=∀e∈m,z2m g.2.1.length (g.1.length+1) e
theorem jle{g:jb}{K rows:List (List Int)}{m:PM}(hR:GR g)(F:GOk g)(hv:z6q g K rows m)(hn:(m.map (·.1)).Nodup)(ht:jh6 g m):Tn (λc=>zx c g) (λx=>x=if(Jd m).2=true then([],15,())else(jev g.2.1.length (g.1.length+1) m,0,())):=by
 have c2:=F.r;have d3:=F.t;unfold zx zee;refine Waa hR waa λb O=>?_;subst O;refine wae rfl (Waa hv.f waa λb O=>?_);subst O;refine jcf hv (λc h=>znf Qf (Qc c) _ (false,h,(0,0,()),(0,0,()),List.replicate h.length false)) ?_
 let l:Nat->(Bool×(List (je×(List Int)×Unit))×je×je×(List Bool))->Option ((List (List Int))×Int×Unit):=λc(e1,e2,e3,e4,e5)=>ifB e1 (some ([],15,())) (ja (some (g.2.1.length:Int)) λe6=>ja (mkO 24 e6) λX=>jn (σ:=Int×Int×jb×(List (je×(List Int)×Unit))×(List (List Int))) (λ(Y,B,Z,L,M)f3=>ifB (decide (B<Y)) (ja (some (w64 ((Z.1.length:Int)+1))) λf4=>ja (mkO 8 f4) λf5=>ja (jw M.length B) λf6=>ja (yz M f6 (List.replicate f5 (0:Int))) λI=>ja (jw I.length B) λJ=>ja (atL I J) λf9=>ja (atL I J) λg0=>jn (σ:=Int×Int×Int×Int×Int×jb×(List (je×(List Int)×Unit))×(List (List Int))) (λ(g1,g2,g3,g4,N,g6,g7,A)g9=>ifB (decide (N<g4)) (ja (jw A.length g1) λh0=>ja (atL A h0) λh1=>ja (ja (atL A h0) λh2=>jw h2.length N) λh3=>ja (ja (atL A h0) λh4=>ja (yz h4 h3 (-1)) λh5=>some (A.set h0.toNat h5)) λh6=>ja (some (w64 (N+1))) λh7=>g9 (g1,g2,g3,g4,h7,g6,g7,h6)) (ja (some (w64 (g3+1))) λh8=>f3 (g2,h8,g6,g7,A))) c (B,Y,B,(g0.length:Int),0,Z,L,I)) (znf yw (qi c) (λ(V,j7,j8)=>some (V,0,())) (M,(List.replicate L.length false),L))) c (((List.replicate X ([]:(List Int))).length:Int),0,g,e2,(List.replicate X ([]:(List Int)))))
 refine wbh (g:=λc=>l c ((Jd m).2,um m,(0,0,()),((Jd m).1.1,(Jd m).1.2,()),[])) (λc=>by
  obtain⟨W,e⟩:=jdl c (0,0,()) (l c) hn;exact e) ?_
 refine wab (λw=>?_) λw=>?_
 ·rw[if_pos w];exact Tt.pure rfl
 rw[if_neg (by rw[w];simp)];refine wad (wac g.2.1.length (mkN (by omega) (by omega)) ?_);have hw:w64 ((g.1.length:Int)+1)=((g.1.length+1:Nat):Int):=by rw[zrg (by omega) (by omega)];omega
 refine Tt.loop (λk st=>∃(n:Nat)(out:List (List Int)),st=(((List.replicate g.2.1.length ([]:List Int)).length:Int),(n:Int),g,um m,out)/\n<=g.2.1.length/\k=g.2.1.length-n/\out.length=g.2.1.length/\∀i,i<n->out[i]?=some (List.replicate (g.1.length+1) (-1))) g.2.1.length waa ⟨0,_,rfl,wem _,rfl,by simp,λi z=>by omega⟩ ?_;rintro k _ ⟨n,out,rfl,c6,rfl,S,s⟩ nx R;dsimp only;refine wab (λw=>?_) λw=>?_
 ·have Q:n<g.2.1.length:=by have:=wcd w;simp at this;omega
  have a:n<out.length:=by omega
  refine wad (wac (g.1.length+1) (by rw[hw];exact mkN (by omega) (by omega)) ?_);refine wac _ (qv a) (wac _ (zm _ a) ?_);refine wac _ (qv (by simpa using a)) (wac _ (atN (by simpa using a)) (wac _ (atN (by simpa using a)) ?_));simp only[List.getElem_set_self];refine Tt.loop (φ:=λp:Nat×Nat=>p.1) (λk st=>∃(t:Nat)(u:List (List Int))(row:List Int),st=((n:Int),((List.replicate g.2.1.length ([]:List Int)).length:Int),(n:Int),((List.replicate (g.1.length+1) (0:Int)).length:Int),(t:Int),g,um m,u)/\t<=g.1.length+1/\k=g.1.length+1-t/\u.length=g.2.1.length/\(∀i,i<n->u[i]?=some (List.replicate (g.1.length+1) (-1)))/\u[n]?=some row/\row.length=g.1.length+1/\∀i,i<t->row[i]?=some (-1)) (g.1.length+1) waa.fst
   ⟨0,_,List.replicate (g.1.length+1) 0,rfl,by omega,by omega,by simpa using S,λi z=>by rw[wec (by omega)];exact s i z,wel a,by simp,λi z=>by omega⟩ ?_
  rintro k2 _ ⟨t,u,row,rfl,c8,rfl,E,d,j,U,H⟩ d2 D;have C:=(wcg.1 j).1;dsimp only;refine wab (λy=>?_) λy=>?_
  ·have o:t<row.length:=by have:=wcd y;simp at this;omega
   have v:atL u (n:Int)=some row:=Jo (by omega) (by simpa using j);refine wac _ (qv C) (wac _ v (wac (t:Int) (by rw[v];exact qv o) ?_));refine wac (u.set n (row.set t (-1))) (by rw[v];simp only[ja,zm (-1) o,wcx]) (wad ?_);rw[show w64 ((t:Int)+1)=((t+1:Nat):Int) by rw[zrg (by omega) (by omega)];omega];refine D _ _ (by omega) ⟨t+1,_,row.set t (-1),rfl,by omega,rfl,by simpa using E,λi z=>by rw[wec (by omega)];exact d i z,wel C,by simpa using U,λi z=>?_⟩;rw[wc8];by_cases e:t=i
   ·rw[if_pos e,if_pos (by omega)]
   ·rw[if_neg e];exact H i (by omega)
  ·have P:t=g.1.length+1:=by have:=wce y;simp at this;omega
   refine wad ?_;rw[show w64 ((n:Int)+1)=((n+1:Nat):Int) by rw[zrg (by omega) (by omega)];omega];refine Tt.fst (R _ _ (by omega) ⟨n+1,u,rfl,Q,rfl,E,λi z=>?_⟩);rcases Nat.lt_or_ge i n with h|h
   ·exact d i h
   ·have:i=n:=by omega
    subst this;rw[j];congr 1;apply wee ;intro q;by_cases T:q<g.1.length+1
    ·rw[H q (by omega),wdf,if_pos T]
    ·rw[wdt (by omega),wdt (by simp;omega)]
 ·have P:n=g.2.1.length:=by have:=wce w;simp at this;omega
  have G:out=zub g.2.1.length (g.1.length+1):=by
   unfold zub;apply wee;intro q;by_cases T:q<g.2.1.length
   ·rw[s q (by omega),wdf,if_pos T]
   ·rw[wdt (by omega),wdt (by simp;omega)]
  subst G;refine wbh (g:=λ_=>some (jev g.2.1.length (g.1.length+1) m,0,())) (λp=>by
   obtain⟨W,e⟩:=joj p.1 (λ((V,j7,j8):(List (List Int))×(List Bool)×(List (je×(List Int)×Unit)))=>(some (V,0,()):Option ((List (List Int))×Int×Unit))) ht hn;exact e) (Tt.pure rfl)
theorem z2e{g:jb}{em:List Bool}{al B:List (List Int)}{m:PM}(b:GOk g)(h:z67 g em al B m):jh6 g m:=λe c=>by
 have a:=h.pm.ne e c;obtain⟨i,l,j⟩:∃i l,e.2=i::l:=by
  cases f:e.2 with
  |nil=>exact absurd f a
  |cons i l=>exact⟨i,l,rfl⟩
 obtain⟨k,p,_,n,o,d,q,_⟩:=h.pm.says e c i (by simp[j]);obtain⟨r,s⟩:=b.left p (wck n);exact⟨by omega,by omega,d,by omega,a⟩
theorem jao(g:jb)(x:ji)(r:List Bool)(k:r.length=g.2.1.length)(i:zao g x):Tn (λj=>Yi j x r) (λb=>b=true↔(x.1=true->r[x.2.1.toNat]?=some true)):=by
 unfold Yi;refine Tt.J (λb=>b=true↔(x.1=true->r[x.2.1.toNat]?=some true)) (λl a=>?_) (λs h=>Tt.pure h);refine wad (wab (λc=>a _ ?_) (λc=>?_))
 ·have c:x.1=false:=by simpa using c
  simp[c]
 have c:x.1=true:=by simpa using c
 obtain⟨e,f⟩:=i;rw[if_pos c]at f;have d:x.2.1.toNat<r.length:=by omega
 refine wac _ (Jo e (wcf d)) (a _ ?_);rw[wcf d];simp[c]
end
end Go.Proofs.YtigdmmgklieofaaGreat.T
namespace Go.Proofs.YtigdmmgklieofaaGreat
noncomputable section
open _root_.Go.Proofs.Tryz
set_option maxRecDepth 100000
set_option maxHeartbeats 8000000
set_option linter.unusedVariables false
set_option linter.unusedSimpArgs false
open Go Go.RowKit L
inductive Rch(E:Nat->Nat->Prop)(S:Nat->Prop):Nat->Prop
 |base {i:Nat}:S i->Rch E S i
 |step {i j:Nat}:Rch E S i->E i j->Rch E S j
def onB(l:List Bool)(i:Nat):Prop:=l[i]?=some true
theorem zwh{l:List Bool}{i:Nat}(h:onB l i):i<l.length:=(wcg.1 h).1
theorem J5{l:List Bool}{i j:Nat}(hi:i<l.length):onB (l.set i true) j↔i=j\/onB l j:=by
 unfold onB;by_cases h:i=j
 ·subst h;simp[wel hi]
 ·rw[wec h];simp[h]
theorem z5g{n i:Nat}:¬onB (List.replicate n false) i:=by
 unfold onB;intro h;obtain⟨b,a⟩:=wcg.1 h;simp at a
def offs(l:List Bool):Nat:=l.count false
theorem z45(l:List Bool):offs l<=l.length:=List.count_le_length
theorem zkj(b:Bool)(l:List Bool):offs (b::l)=offs l+(if b then 0 else 1):=by
 unfold offs;cases b<;>simp
theorem zw0:∀{l:List Bool}{i:Nat},l[i]?=some false->offs (l.set i true)+1=offs l
 |[],i,h=>by simp at h
 |b::l,0,h=>by
  simp at h;subst h;simp[zkj]
 |b::l,i+1,h=>by
  simp only[we3]at h;have:=zw0 h;simp only[List.set_cons_succ,zkj];omega
def LeB(a b:List Bool):Prop:=a.length=b.length/\∀i,onB a i->onB b i
theorem LeB.refl(a:List Bool):LeB a a:=⟨rfl,λ_ h=>h⟩
theorem LeB.trans{a b c:List Bool}(h:LeB a b)(d:LeB b c):LeB a c:=⟨h.1.trans d.1,λi e=>d.2 i (h.2 i e)⟩
theorem LeB.set{a:List Bool}{i:Nat}(hi:i<a.length):LeB a (a.set i true):=⟨by simp,λj b=>(J5 hi).2 (.inr b)⟩
theorem jj3{a b:List Bool}(g:a.length=b.length)(h:∀i,onB a i↔onB b i):a=b:=by
 refine wfp g λi e f=>?_;have:=h i;unfold onB at this;rw[wcf e,wcf f]at this;cases c:a[i]<;>cases d:b[i]<;>simp[c,d]at this<;>rfl
theorem LeB.antisymm{a b:List Bool}(h:LeB a b)(c:LeB b a):a=b:=jj3 h.1 λi=>⟨h.2 i,c.2 i⟩
theorem LeB.offs:∀{a b:List Bool},LeB a b->a=b\/offs b<offs a:=by
 intro a;induction a with
 |nil=>intro b h;cases b with
  |nil=>exact .inl rfl
  |cons x b=>exact absurd h.1 (by simp)
 |cons x a f=>
  intro b h;cases b with
  |nil=>exact absurd h.1 (by simp)
  |cons y b=>
   have c:LeB a b:=⟨by simpa using h.1,λi d=>by have:=h.2 (i+1);unfold onB at *;simpa using this (by simpa using d)⟩
   have h0:x=true->y=true:=λe=>by have:=h.2 0;unfold onB at this;simpa [e]using this
   rw[zkj,zkj];rcases f c with e|e
   ·subst e;cases x with
    |true=>rw[h0 rfl];exact .inl rfl
    |false=>cases y with
     |false=>exact .inl rfl
     |true=>right;simp
   ·right;cases x with
    |true=>rw[h0 rfl];simpa using e
    |false=>cases y<;>simp<;>omega
def ze8(n:Nat)(E:Nat->Nat->Prop)(S:Nat->Prop):List Bool:=by
 classical exact(List.range n).map λi=>decide (Rch E S i)
theorem zez(n:Nat)(E:Nat->Nat->Prop)(S:Nat->Prop):(ze8 n E S).length=n:=by unfold ze8;simp
theorem z4j{n:Nat}{E:Nat->Nat->Prop}{S:Nat->Prop}{i:Nat}:onB (ze8 n E S) i↔i<n/\Rch E S i:=by
 classical
 unfold onB ze8;by_cases h:i<n
 ·simp[h]
 ·simp[h]
theorem jde{n:Nat}{E:Nat->Nat->Prop}{S:Nat->Prop}{l:List Bool}(a:l.length=n)(d:∀i,onB l i->Rch E S i)(b:∀i,S i->onB l i)(c:∀i j,onB l i->E i j->onB l j):l=ze8 n E S:=by
 refine jj3 (by rw[a,zez]) λi=>⟨λh=>z4j.2 ⟨a▸zwh h,d i h⟩,λh=>?_⟩
 have:=(z4j.1 h).2;clear h;induction this with
 |base h=>exact b _ h
 |step _ h e=>exact c _ _ e h
structure Round(E:Nat->Nat->Prop)(S:Nat->Prop)(a b:List Bool):Prop where
 le:LeB a b
 sound:∀i,onB b i->Rch E S i
 closed:a=b->(∀i,S i->onB a i)/\∀i j,onB a i->E i j->onB a j
theorem Round.next{n:Nat}{E:Nat->Nat->Prop}{S:Nat->Prop}{a b:List Bool}{m k:Nat}(h:Round E S a b)(f:a.length=n)(c:a=ze8 n E S\/offs a+k<=m):b=ze8 n E S\/offs b+(k+1)<=m:=by
 rcases c with c|c
 ·left;refine h.le.antisymm ⟨h.le.1.symm,λi d=>?_⟩ |>.symm.trans c
  rw[c];exact z4j.2 ⟨f▸(h.le.1▸zwh d),h.sound i d⟩
 ·rcases h.le.offs with e|e
  ·left;obtain⟨g,j⟩:=h.closed e;subst e;exact jde f h.sound g j
  ·right;omega
end
end Go.Proofs.YtigdmmgklieofaaGreat
namespace Go.Proofs.YtigdmmgklieofaaGreat.T
noncomputable section
open _root_.Go.Proofs.Tryz
set_option maxRecDepth 100000
set_option maxHeartbeats 8000000
set_option linter.unusedVariables false
set_option linter.unusedSimpArgs false
open Go Go.RowKit L
inductive ReG(g:jb):Nat->Prop
 |start:ReG g g.2.2.2.1.toNat
 |step {p:jh}{x:ji}:p∈g.2.2.1->ReG g p.1.toNat->x∈p.2.1->x.1=true->ReG g x.2.1.toNat
structure ROk(g:jb)(st:Nat)(r:List Bool):Prop where
 a:r[st]?=some true
 b:∀i,r[i]?=some true->ReG g i
theorem ROk.set{g:jb}{st:Nat}{r:List Bool}(h:ROk g st r){p:jh}{x:ji}(j:p∈g.2.2.1)(f:r[p.1.toNat]?=some true)(k:x∈p.2.1)(d:x.1=true){z:Nat}(hz:z=x.2.1.toNat):ROk g st (r.set z true):=by
 refine⟨z6b h.a,λi c=>?_⟩;rw[wc8]at c;split at c
 ·rename_i e;subst e;subst hz;exact .step j (h.b _ f) k d
 ·exact h.b i c
theorem ja5(g:jb)(hg:Y1 g)(hR:GR g)(F:GOk g):Tn (λnn=>yy nn g) (λr=>r.length=g.2.1.length/\r[g.2.2.2.1.toNat]?=some true/\(∀p∈g.2.2.1,reC r p)/\∀i,r[i]?=some true->ReG g i):=by
 unfold yy;refine Waa hR waa λb hb=>?_;subst hb;refine wae rfl ?_;have hp:=hg.p;refine wad (wac _ (mkN hg.r (by omega)) ?_);obtain⟨st,a0⟩:∃st:Nat,g.2.2.2.1=st:=⟨g.2.2.2.1.toNat,by have:=F.start;omega⟩
 have e0:=F.start.2;rw[a0];have K:st<(List.replicate g.2.1.length false).length:=by simp;omega
 refine wac _ (qv K) (wac _ (zm true K) ?_);rw[wcx];have h0:∀i,((List.replicate g.2.1.length false).set st true)[i]?=some true->ReG g i:=λi h=>by
  rw[wc8]at h;split at h
  ·rename_i e;subst e;have:=ReG.start (g:=g);rwa [a0,wcx]at this
  ·rw[wdf]at h;split at h<;>cases h
 refine Tt.loop (λm s=>∃(d:Bool)(r:List Bool),m=2*yd r+(if d=true then 1 else 0)/\s=(g.2.2.1,d,r)/\r.length=g.2.1.length/\ROk g st r/\(d=false->∀p∈g.2.2.1,reC r p)) (2*yd ((List.replicate g.2.1.length false).set st true)+1) waa ⟨true,_,rfl,rfl,by simp,⟨by rw[wc8];simp at K;simp[K],λi h=>h0 i h⟩,λh=>by cases h⟩ λm s⟨d,r,hm,G,hl,O,a9⟩ nx Y=>?_;subst G;dsimp only;refine wab (λc=>?_) (λc=>Tt.pure ⟨hl,O.a,a9 c,O.b⟩);subst c;rw[if_pos rfl]at hm;refine Tt.loop (λm s=>∃(k:Nat)(d:Bool)(l:List Bool),k<=g.2.2.1.length/\m=g.2.2.1.length-k/\s=(g.2.2.1,d,g.2.2.1,(g.2.2.1.length:Int),(k:Int),l)/\l.length=g.2.1.length/\ROk g st l/\(d=true->yd l<yd r)/\(d=false->l=r/\∀i,i<k->∀p,g.2.2.1[i]?=some p->reC r p)) g.2.2.1.length waa.fst ⟨0,false,r,by omega,by omega,rfl,hl,O,λh=>(by cases h),λ_=>⟨rfl,λi hi=>by omega⟩⟩ λm2 s⟨k,d,l,hk,d7,G,D,v,ht,V⟩ ny b9=>?_;subst G;dsimp only;refine wab (λc=>?_) (λc=>?_)
 ·have c:=wcd c;have M:k<g.2.2.1.length:=by omega
  have t:g.2.2.1[k]∈g.2.2.1:=wcm M;refine wac _ (atN M) ?_;have T:g.2.2.1[k]?=some g.2.2.1[k]:=wcf M;obtain⟨p,ep⟩:∃p,g.2.2.1[k]=p:=⟨_,rfl⟩
  rw[ep]at t T⊢;obtain⟨l0,l1⟩:=F.left p t;have b0:=F.items p t;have d9:=F.len p t;obtain⟨q,hq⟩:∃q:Nat,p.1=q:=⟨p.1.toNat,by omega⟩
  refine Tt.J (λs=>∃(d:Bool)(l:List Bool),s=(g.2.2.1,d,g.2.2.1,(g.2.2.1.length:Int),(k:Int),l)/\l.length=g.2.1.length/\ROk g st l/\(d=true->yd l<yd r)/\(d=false->l=r/\∀i,i<k+1->∀p,g.2.2.1[i]?=some p->reC r p)) (λnz Z=>?_) (λs⟨d,l,G,D,v,ht,V⟩=>?_)
  ·refine Tt.loop (λm s=>∃(i:Nat)(f:Bool)(n:List Bool),i<=p.2.1.length/\m=p.2.1.length-i/\s=(f,p.2.1,(p.2.1.length:Int),(i:Int),n,p)/\n.length=g.2.1.length/\ROk g st n/\(f=true->yd n<yd l)/\(f=false->n=l/\(l[q]?=some true->∀j,j<i->∀x,p.2.1[j]?=some x->x.1=true->l[x.2.1.toNat]?=some true))) p.2.1.length waa.fst.fst ⟨0,false,l,by omega,by omega,rfl,D,v,λh=>(by cases h),λ_=>⟨rfl,λ_ j hj=>by omega⟩⟩ λm3 s⟨i,f,n,hi,d8,G,B,o,H,C⟩ nw b8=>?_;subst G;dsimp only;have I:q<n.length:=by omega
   refine wab (λc=>?_) (λc=>?_)
   ·have c:=wcd c;have L:i<p.2.1.length:=by omega
    have P:p.2.1[i]∈p.2.1:=wcm L;have U:p.2.1[i]?=some p.2.1[i]:=wcf L;refine Tt.J (λs=>∃(f:Bool)(n:List Bool),s=(f,p.2.1,(p.2.1.length:Int),(i:Int),n,p)/\n.length=g.2.1.length/\ROk g st n/\(f=true->yd n<yd l)/\(f=false->n=l/\(l[q]?=some true->∀j,j<i+1->∀x,p.2.1[j]?=some x->x.1=true->l[x.2.1.toNat]?=some true))) (λnv X=>?_) (λs⟨f,n,G,B,o,H,C⟩=>?_)
    ·refine wac _ (atN L) ?_;obtain⟨x,ex⟩:∃x,p.2.1[i]=x:=⟨_,rfl⟩
     rw[ex]at P U⊢;obtain⟨i1,i2⟩:=b0 x P;have keep:(n[q]?=some true->x.1=true->n[x.2.1.toNat]?=some true)->(f=false->n=l/\(l[q]?=some true->∀j,j<i+1->∀x,p.2.1[j]?=some x->x.1=true->l[x.2.1.toNat]?=some true)):=λhe b7=>by
      obtain⟨R,S⟩:=C b7;refine⟨R,λw j hj y Q a2=>?_⟩;by_cases b4:j<i
      ·exact S w j b4 y Q a2
      ·have:j=i:=by omega
       subst this;rw[U]at Q;cases Q;rw[<- R]at w⊢;exact he w a2
     refine Tt.J (λs=>∃b:Bool,s=(f,p.2.1,(p.2.1.length:Int),(i:Int),b,n,p,x)/\(b=true->x.1=true/\n[x.2.1.toNat]?=some false/\n[q]?=some true)/\(b=false->n[q]?=some true->x.1=true->n[x.2.1.toNat]?=some true)) (λnu N=>?_) (λs⟨b,G,a7,a8⟩=>?_)
     ·rw[hq];refine wac _ (qv I) (wac _ (atN I) ?_);refine wab (λc=>?_) (λc=>N _ ⟨false,rfl,λh=>(by cases h),λ_ h=>?_⟩)
      ·refine wab (λcx=>?_) (λcx=>N _ ⟨false,rfl,λh=>(by cases h),λ_ _ h=>?_⟩)
       ·rw[if_pos cx]at i2;obtain⟨z,hz⟩:∃z:Nat,x.2.1=z:=⟨x.2.1.toNat,by omega⟩
        have A:z<n.length:=by omega
        rw[hz];refine wac _ (qv A) (wac _ (atN A) (N _ ⟨_,rfl,λh=>⟨cx,?_,by rw[wcf I,c]⟩,λh _ _=>?_⟩))
        ·rw[hz,wcx,wcf A];simp at h;rw[h]
        ·rw[hz,wcx,wcf A];simp at h;rw[h]
       ·rw[cx]at h;cases h
      ·rw[wcf I,c]at h;cases h
     ·subst G;dsimp only;refine wab (λcb=>?_) (λcb=>X _ ⟨f,n,rfl,B,o,H,keep (a8 cb)⟩);obtain⟨b1,b2,b3⟩:=a7 cb;obtain⟨z,hz⟩:∃z:Nat,x.2.1=z:=⟨x.2.1.toNat,by omega⟩
      rw[hz,wcx]at b2;have A:=(wcg.1 b2).1;rw[hz];refine wac _ (qv A) (wac _ (zm true A) (X _ ⟨true,_,rfl,by simpa using B,o.set t (by rw[hq];exact b3) P b1 (by rw[hz];rfl),λ_=>?_,λh=>by cases h⟩));have:=zem b2;cases W:f with
      |true=>have:=H W;omega
      |false=>have:=(C W).1;subst this;omega
    ·subst G;dsimp only;refine wad ?_;rw[wI (by omega) (by omega)];exact b8 (p.2.1.length-(i+1)) _ (by omega) ⟨i+1,f,n,by omega,rfl,by simp,B,o,H,C⟩
   ·have c:=wce c;refine wab (λcn=>Z.fst _ ⟨true,n,rfl,B,o,λ_=>?_,λh=>by cases h⟩) (λcn=>?_)
    ·have:=H cn;cases E:d with
     |true=>have:=ht E;omega
     |false=>have:=(V E).1;subst this;omega
    ·obtain⟨R,S⟩:=C cn;subst R;refine Z.fst _ ⟨d,n,rfl,B,o,ht,λb6=>?_⟩;obtain⟨e3,e4⟩:=V b6;refine⟨e3,λj hj y Q=>?_⟩;by_cases b5:j<k
     ·exact e4 j b5 y Q
     ·have:j=k:=by omega
      subst this;rw[T]at Q;cases Q;intro w x hx c1;obtain⟨u,hu⟩:=wdc hx;rw[hq,wcx]at w;rw[<- e3]at w⊢;exact S w u (by have:=(wcg.1 hu).1;omega) x hu c1
  ·subst G;dsimp only;refine wad ?_;rw[wI (by omega) (by omega)];exact b9 (g.2.2.1.length-(k+1)) _ (by omega) ⟨k+1,d,l,by omega,rfl,by simp,D,v,ht,V⟩
 ·have c:=wce c;cases E:d with
  |true=>
   have:=ht E;exact Tt.fst (Y (2*yd l+1) _ (by omega) ⟨true,l,rfl,rfl,D,v,λh=>by cases h⟩)
  |false=>
   obtain⟨R,S⟩:=V E;subst R;exact Tt.fst (Y (2*yd l) _ (by omega) ⟨false,l,rfl,rfl,D,v,λ_ p hp=>by
    obtain⟨i,hi⟩:=wdc hp;exact S i (by have:=(wcg.1 hi).1;omega) p hi⟩)
theorem Z7(g:jb)(f:zc4 g):Tn (λi=>yj i g) (λb=>b=true↔gFd g=zd):=by
 unfold yj;refine Waa (ziv g f) waa λd e=>Tt.pure ?_;subst e;obtain⟨a,b,c,u⟩:=gFd g;constructor
 ·intro h;simp[zzq]at h;obtain⟨rfl,rfl,rfl⟩:=h;rfl
 ·intro h;cases h;rfl
theorem zvh{r:List Bool}{z:Nat}(h:r[z]?=some true):r.set z true=r:=by
 apply wee;intro i;rw[wc8];split
 ·rename_i e;subst e;rw[if_pos (wcg.1 h).1,h]
 ·rfl
theorem z25:∀(r:List Bool),yd r<=r.length
 |[]=>by simp[yd]
 |b::r=>by
  have:=z25 r;unfold yd;cases b<;>simp<;>omega
structure Psd(r r1:List Bool)(C D:Prop):Prop where
 l:r1.length=r.length
 le:yd r1<=yd r
 eq:yd r1=yd r->r1=r/\D
 cl:C->r1=r
theorem Psd.set{r a:List Bool}{C D:Prop}(h:Psd r a C D){z:Nat}(hz:z<a.length)(j:C->a[z]?=some true){d:Prop}(i:D->r[z]?=some true->d):Psd r (a.set z true) C d:=by
 by_cases b:a[z]?=some true
 ·rw[zvh b];refine⟨h.l,h.le,λe=>?_,h.cl⟩;obtain⟨f,g⟩:=h.eq e;exact⟨f,i g (f▸b)⟩
 ·have k:a[z]?=some false:=by
   rw[wcf hz]at b⊢;cases m:a[z]with
   |true=>rw[m]at b;exact absurd rfl b
   |false=>rfl
  have:=zem k;have n:=h.le;exact⟨by rw[web];exact h.l,by omega,λe=>by omega,λc=>absurd (j c) b⟩
theorem Psd.mono{r a:List Bool}{C D b:Prop}(h:Psd r a C D)(c:D->a=r->b):Psd r a C b:=⟨h.l,h.le,λe=>⟨(h.eq e).1,c (h.eq e).2 (h.eq e).1⟩,h.cl⟩
theorem z3x{r:List Bool}{z:Nat}(h:z<r.length):r[z]?=some r[z]:=wcf h
theorem z0b(g:jb)(hg:zc4 g)(hz:gFd g=zd)(t:GOk g):Tn (λnn=>yn nn g) (λr=>r.length=g.2.1.length/\r[g.2.2.2.1.toNat]?=some true/\(∀p∈g.2.2.1,reC r p)/\∀i,r[i]?=some true->ReG g i):=by
 unfold yn;refine Waa (Z7 g hg) waa λb hb=>?_;have b1:=hb.2 hz;subst b1;refine wae rfl ?_;have hp:=hg.p;have hr:=hg.r;have c6:=t.r;refine wad (wac _ (mkN hg.r (by omega)) ?_);obtain⟨st,a5⟩:∃st:Nat,g.2.2.2.1=st:=⟨g.2.2.2.1.toNat,by have:=t.start;omega⟩
 have d5:=t.start.2;rw[a5];have F:st<(List.replicate g.2.1.length false).length:=by simp;omega
 refine wac _ (qv F) (wac _ (zm true F) ?_);rw[wcx];have hi:ROk g st ((List.replicate g.2.1.length false).set st true):=by
  refine⟨by rw[wc8];simp at F;simp[F],λi h=>?_⟩;rw[wc8]at h;split at h
  ·rename_i e;subst e;have:=ReG.start (g:=g);rwa [a5,wcx]at this
  ·rw[wdf]at h;split at h<;>cases h
 have Y:((List.replicate g.2.1.length false).set st true).length=g.2.1.length:=by simp
 generalize (List.replicate g.2.1.length false).set st true=r0 at hi Y⊢;refine Tt.loop (λm s=>∃(k:Nat)(r:List Bool),k<=g.2.1.length+1/\m=g.2.1.length+1-k/\s=((k:Int),g,r)/\r.length=g.2.1.length/\ROk g st r/\((∀p∈g.2.2.1,reC r p)\/yd r+k<=g.2.1.length)) (g.2.1.length+1) waa ⟨0,r0,by omega,by omega,rfl,Y,hi,.inr (by have:=z25 r0;omega)⟩ λm s⟨k,r,hk,hm,E,hl,P,W⟩ nx b4=>?_;subst E;dsimp only;refine wab (λc=>?_) (λc=>Tt.pure ⟨hl,P.a,?_,P.b⟩)
 ·have c:=wcd c;refine Tt.loop (λm s=>∃(i:Nat)(T:List Bool),i<=g.2.2.1.length/\m=g.2.2.1.length-i/\s=((k:Int),(i:Int),g,T)/\ROk g st T/\Psd r T (∀p∈g.2.2.1,reC r p) (∀(j:Nat)(p:jh),j<i->g.2.2.1[j]?=some p->reC r p)) g.2.2.1.length waa.fst ⟨0,r,by omega,by omega,rfl,P,⟨rfl,wcq _,λ_=>⟨rfl,λj p h=>by omega⟩,λ_=>rfl⟩⟩ λm s⟨i,T,d0,d2,E,K,v⟩ ny b5=>?_;subst E;dsimp only;refine wab (λU=>?_) (λU=>?_)
  ·have U:=wcd U;have O:i<g.2.2.1.length:=by omega
   have c1:=z3x (r:=[]) (z:=0);have X:g.2.2.1[i]?=some g.2.2.1[i]:=wcf O;have C:=atN O;have d:g.2.2.1[i]∈g.2.2.1:=wcm O;generalize g.2.2.1[i]=p at X C d;obtain⟨l0,l1⟩:=t.left p d;have b2:=t.items p d;have d4:=t.len p d;obtain⟨q,hq⟩:∃q:Nat,p.1=q:=⟨p.1.toNat,by omega⟩
   refine Tt.loop (λm s=>∃(j:Nat)(B:List Bool),j<=p.2.1.length/\m=p.2.1.length-j/\s=((k:Int),(i:Int),(j:Int),g,B)/\ROk g st B/\Psd r B (∀p∈g.2.2.1,reC r p) ((∀(j:Nat)(p:jh),j<i->g.2.2.1[j]?=some p->reC r p)/\(r[q]?=some true->∀(n:Nat)(x:ji),n<j->p.2.1[n]?=some x->x.1=true->r[x.2.1.toNat]?=some true))) p.2.1.length waa.fst.fst ⟨0,T,by omega,by omega,rfl,K,v.mono λh _=>⟨h,λ_ n x hj=>by omega⟩⟩ λm s⟨j,B,hj,d3,E,w,f⟩ nz b6=>?_;subst E;dsimp only;have D:q<B.length:=by rw[f.l];omega
   refine Tt.J (λs=>∃b,s=((k:Int),(i:Int),(j:Int),b,g,B)/\(b=true↔B[q]?=some true/\j<p.2.1.length)) (λnw a2=>?_) (λs⟨b,E,hb⟩=>?_)
   ·refine wac _ C ?_;rw[hq];refine wac _ (qv D) (wac _ (atN D) (wab (λI=>wac _ C (a2 _ ⟨_,rfl,?_⟩)) λI=>a2 _ ⟨_,rfl,?_⟩))
    ·rw[z3x D,I];simp
    ·rw[z3x D,I];simp
   ·subst E;dsimp only;refine wab (λI=>?_) (λI=>?_)
    ·obtain⟨Q,o⟩:=hb.1 I;have L:p.2.1[j]?=some p.2.1[j]:=wcf o;have G:p.2.1[j]∈p.2.1:=wcm o;refine Tt.J (λs=>∃r3,s=((k:Int),(i:Int),(j:Int),g,r3)/\ROk g st r3/\Psd r r3 (∀p∈g.2.2.1,reC r p) ((∀(j:Nat)(p:jh),j<i->g.2.2.1[j]?=some p->reC r p)/\(r[q]?=some true->∀(n:Nat)(x:ji),n<j+1->p.2.1[n]?=some x->x.1=true->r[x.2.1.toNat]?=some true))) (λnu a1=>?_) (λs⟨r3,E,a4,a3⟩=>?_)
     ·refine wac _ C (wac _ (atN o) ?_);generalize p.2.1[j]=x at L G⊢;obtain⟨i1,i2⟩:=b2 x G;refine wab (λV=>?_) (λV=>a1 _ ⟨B,rfl,w,f.mono λh _=>⟨h.1,λM n y Z R A=>?_⟩⟩)
      ·rw[if_pos V]at i2;obtain⟨z,H⟩:∃z:Nat,x.2.1=z:=⟨x.2.1.toNat,by omega⟩
       have S:z<B.length:=by rw[f.l];omega
       rw[H];refine wac _ (qv S) (wac _ (zm true S) (a1 _ ⟨_,rfl,w.set d (by rw[hq];exact Q) G V (by rw[H];rfl),f.set S (λhc=>?_) (λh b7=>⟨h.1,λM n y Z R A=>?_⟩)⟩))
       ·have e:=f.cl hc;rw[e]at Q⊢;have:=hc p d (by rw[hq];exact Q) x G V;rwa [H]at this
       ·by_cases N:n<j
        ·exact h.2 M n y N R A
        ·have:n=j:=by omega
         subst this;rw[L]at R;cases R;rw[H];exact b7
      ·by_cases N:n<j
       ·exact h.2 M n y N R A
       ·have:n=j:=by omega
        subst this;rw[L]at R;cases R;rw[V]at A;cases A
     ·subst E;refine wad ?_;dsimp only;rw[wI (by omega) (by omega)];exact b6 (p.2.1.length-(j+1)) _ (by omega) ⟨j+1,r3,by omega,rfl,rfl,a4,a3⟩
    ·refine wad ?_;rw[wI (by omega) (by omega)];refine(b5 (g.2.2.1.length-(i+1)) _ (by omega) ⟨i+1,B,by omega,rfl,rfl,w,f.mono λh e n p2 Z u=>?_⟩).fst;by_cases b3:n<i
     ·exact h.1 n p2 b3 u
     ·have:n=i:=by omega
      subst this;rw[X]at u;cases u;intro M x hx b8;rw[hq,wcx]at M;have o:¬j<p.2.1.length:=λo=>by
       rw[hb.2 ⟨by rw[e];exact M,o⟩]at I;cases I
      obtain⟨j3,a0⟩:=wdc hx;exact h.2 M j3 x (by have:=(wcg.1 a0).1;omega) a0 b8
  ·have U:=wce U;refine wad ?_;rw[wI (by omega) (by omega)];refine(b4 (g.2.1.length+1-(k+1)) _ (by omega) ⟨k+1,T,by omega,rfl,rfl,by rw[v.l];exact hl,K,?_⟩).fst;by_cases he:yd T=yd r
   ·obtain⟨e1,e2⟩:=v.eq he;left;intro p u;rw[e1];obtain⟨j,hj⟩:=wdc u;exact e2 j p (by have:=(wcg.1 hj).1;omega) hj
   ·have d1:=v.le;rcases W with h|h
    ·exact absurd (by rw[v.cl h]) he
    ·right;omega
 ·have c:=wce c;rcases W with h|h
  ·exact h
  ·omega
inductive MkG(tk:Bool)(g:jb):Nat->Prop
 |mk {p:jh}:p∈g.2.2.1->(∀x∈p.2.1,x.1=true->MkG tk g x.2.1.toNat)->(∀x∈p.2.1,x.1=false->tk=true)->MkG tk g p.1.toNat
def MSn(a:Bool)(g:jb)(r:List Bool):Prop:=∀i:Nat,r[i]?=some true->MkG a g i
def IPt(a:Bool)(r:List Bool)(x:ji):Prop:=(x.1=true->r[x.2.1.toNat]?=some true)/\(x.1=false->a=true)
def mkT(a:Bool)(r:List Bool)(p:jh):Prop:=(∀x∈p.2.1,IPt a r x)->r[p.1.toNat]?=some true
theorem MSn.nil(a:Bool){g:jb}(n:Nat):MSn a g (List.replicate n false):=λi h=>by
 rw[wdf]at h;split at h<;>cases h
theorem MSn.set{f:Bool}{g:jb}{r:List Bool}(h:MSn f g r){p:jh}(j:p∈g.2.2.1)(a:∀x∈p.2.1,IPt f r x){z:Nat}(hz:z=p.1.toNat):MSn f g (r.set z true):=λi b=>by
 rw[wc8]at b;split at b
 ·rename_i e;subst e;subst hz;exact .mk j (λx c d=>h _ ((a x c).1 d)) λx c=>(a x c).2
 ·exact h i b
theorem item1T(g:jb)(x:ji)(r:List Bool)(c:r.length=g.2.1.length)(d:zao g x):Tn (λe=>Yi e x r) (λb=>b=true↔IPt true r x):=by
 refine(jao g x r c d).mono λb a=>a.trans ?_;unfold IPt;simp
theorem item1F(g:jb)(x:ji)(r:List Bool)(c:r.length=g.2.1.length)(d:zao g x):Tn (λe=>Ya e x r) (λb=>b=true↔IPt false r x):=by
 refine(jfr g x r c d).mono λb a=>a.trans ?_;unfold IPt;cases x.1<;>simp
theorem jkr(g:jb)(X:Y1 g)(hR:GR g)(A:GOk g):Tn (λnn=>Vd nn g) (λr=>r.length=g.2.1.length/\(∀p∈g.2.2.1,mkT true r p)/\MSn true g r):=by
 unfold Vd;refine Tt.J (λr=>r.length=g.2.1.length/\(∀p∈g.2.2.1,mkT true r p)/\MSn true g r) (λa9 h2=>?_) (λs u=>Tt.pure u);refine Waa hR waa λb K=>?_;subst K;refine wae rfl ?_;have Z:=X.p;refine wad (wac _ (mkN X.r (by omega)) ?_);refine Tt.loop (λm s=>∃(a:Bool)(r:List Bool),m=2*yd r+(if a=true then 1 else 0)/\s=(g.2.2.1,a,r)/\r.length=g.2.1.length/\MSn true g r/\(a=false->∀p∈g.2.2.1,mkT true r p)) (2*yd (List.replicate g.2.1.length false)+1) waa ⟨true,_,rfl,rfl,by simp,MSn.nil _ _,λh=>by cases h⟩ λm s⟨a,r,hm,u,Y,G,O⟩ nx F=>?_;subst u;dsimp only;refine wab (λc=>?_) (λc=>h2.fst _ ⟨Y,O c,G⟩);subst c;rw[if_pos rfl]at hm;refine Tt.loop (λm s=>∃(k:Nat)(a:Bool)(d:List Bool),k<=g.2.2.1.length/\m=g.2.2.1.length-k/\s=(g.2.2.1,a,g.2.2.1,(g.2.2.1.length:Int),(k:Int),d)/\d.length=g.2.1.length/\MSn true g d/\(a=true->yd d<yd r)/\(a=false->d=r/\∀i,i<k->∀p,g.2.2.1[i]?=some p->mkT true r p)) g.2.2.1.length waa.fst ⟨0,false,r,by omega,by omega,rfl,Y,G,λh=>(by cases h),λ_=>⟨rfl,λi E=>by omega⟩⟩ λm2 s⟨k,a,d,hk,a5,u,f,e,B,D⟩ ny V=>?_;subst u;dsimp only;refine wab (λc=>?_) (λc=>?_)
 ·have c:=wcd c;have y:k<g.2.2.1.length:=by omega
  have l:g.2.2.1[k]∈g.2.2.1:=wcm y;refine wac _ (atN y) ?_;have C:g.2.2.1[k]?=some g.2.2.1[k]:=wcf y;obtain⟨p,ep⟩:∃p,g.2.2.1[k]=p:=⟨_,rfl⟩
  rw[ep]at l C⊢;obtain⟨l0,l1⟩:=A.left p l;have Q:=A.items p l;have a7:=A.len p l;obtain⟨q,L⟩:∃q:Nat,p.1=q:=⟨p.1.toNat,by omega⟩
  have o:q<d.length:=by omega
  refine Tt.J (λs=>∃(a:Bool)(d:List Bool),s=(g.2.2.1,a,g.2.2.1,(g.2.2.1.length:Int),(k:Int),d)/\d.length=g.2.1.length/\MSn true g d/\(a=true->yd d<yd r)/\(a=false->d=r/\∀i,i<k+1->∀p,g.2.2.1[i]?=some p->mkT true r p)) (λnz z=>?_) (λs⟨a,d,u,f,e,B,D⟩=>?_)
  ·have keep:mkT true d p->(a=false->d=r/\∀i,i<k+1->∀p,g.2.2.1[i]?=some p->mkT true r p):=λhe T=>by
    obtain⟨I,M⟩:=D T;refine⟨I,λi E x v=>?_⟩;by_cases P:i<k
    ·exact M i P x v
    ·have:i=k:=by omega
     subst this;rw[C]at v;cases v;rw[<- I];exact he
   rw[L];refine wac _ (qv o) (wac _ (atN o) ?_);refine wab (λc=>z _ ⟨a,d,rfl,f,e,B,keep λ_=>?_⟩) (λc=>?_)
   ·rw[L,wcx,wcf o,c]
   ·have W:d[q]?=some false:=by rw[wcf o,c]
    refine Tt.loop (λm s=>∃i:Nat,i<=p.2.1.length/\m=p.2.1.length-i/\s=(p.2.1,(p.2.1.length:Int),(i:Int),d,p)/\∀(j:Nat)(x:ji),j<i->p.2.1[j]?=some x->IPt true d x) p.2.1.length waa.fst.fst ⟨0,by omega,by omega,rfl,λj x h=>by omega⟩ λm3 s⟨i,E,a6,u,n⟩ nw U=>?_;subst u;dsimp only;refine wab (λc=>?_) (λc=>?_)
    ·have c:=wcd c;have w:i<p.2.1.length:=by omega
     have H:p.2.1[i]∈p.2.1:=wcm w;refine wac _ (atN w) (Waa (item1T g _ d f (Q _ H)) waa.fst.fst.fst λb K=>?_);refine wab (λcb=>z.fst _ ⟨a,d,rfl,f,e,B,keep λn=>?_⟩) (λN=>wad ?_)
     ·have:=K.2 (n _ H);rw[this]at cb;cases cb
     ·rw[wI (by omega) (by omega)];refine U (p.2.1.length-(i+1)) _ (by omega) ⟨i+1,by omega,rfl,rfl,λj x R v=>?_⟩;by_cases S:j<i
      ·exact n j x S v
      ·have:j=i:=by omega
       subst this;rw[wcf w]at v;cases v;exact K.1 (by simpa using N)
    ·rw[L];refine wac _ (qv o) (wac _ (zm true o) (z.fst _ ⟨true,_,rfl,by simpa using f,e.set l (λx v=>?_) (by rw[L];rfl),λ_=>?_,λh=>by cases h⟩))
     ·have c:=wce c;obtain⟨j,R⟩:=wdc v;exact n j x (by have:=(wcg.1 R).1;omega) R
     have:=zem W;cases t:a with
     |true=>have:=B t;omega
     |false=>have:=(D t).1;subst this;omega
  ·subst u;dsimp only;refine wad ?_;rw[wI (by omega) (by omega)];exact V (g.2.2.1.length-(k+1)) _ (by omega) ⟨k+1,a,d,by omega,rfl,by simp,f,e,B,D⟩
 ·have c:=wce c;cases t:a with
  |true=>
   have:=B t;exact Tt.fst (F (2*yd d+1) _ (by omega) ⟨true,d,rfl,rfl,f,e,λh=>by cases h⟩)
  |false=>
   obtain⟨I,M⟩:=D t;subst I;exact Tt.fst (F (2*yd d) _ (by omega) ⟨false,d,rfl,rfl,f,e,λ_ p Z=>by
    obtain⟨i,E⟩:=wdc Z;exact M i (by have:=(wcg.1 E).1;omega) p E⟩)
theorem jiy(g:jb)(X:Y1 g)(hR:GR g)(A:GOk g):Tn (λnn=>yl nn g) (λr=>r.length=g.2.1.length/\(∀p∈g.2.2.1,mkT false r p)/\MSn false g r):=by
 unfold yl;refine Tt.J (λr=>r.length=g.2.1.length/\(∀p∈g.2.2.1,mkT false r p)/\MSn false g r) (λa9 h2=>?_) (λs u=>Tt.pure u);refine Waa hR waa λb K=>?_;subst K;refine wae rfl ?_;have Z:=X.p;refine wad (wac _ (mkN X.r (by omega)) ?_);refine Tt.loop (λm s=>∃(a:Bool)(r:List Bool),m=2*yd r+(if a=true then 1 else 0)/\s=(g.2.2.1,a,r)/\r.length=g.2.1.length/\MSn false g r/\(a=false->∀p∈g.2.2.1,mkT false r p)) (2*yd (List.replicate g.2.1.length false)+1) waa ⟨true,_,rfl,rfl,by simp,MSn.nil _ _,λh=>by cases h⟩ λm s⟨a,r,hm,u,Y,G,O⟩ nx F=>?_;subst u;dsimp only;refine wab (λc=>?_) (λc=>h2.fst _ ⟨Y,O c,G⟩);subst c;rw[if_pos rfl]at hm;refine Tt.loop (λm s=>∃(k:Nat)(a:Bool)(d:List Bool),k<=g.2.2.1.length/\m=g.2.2.1.length-k/\s=(g.2.2.1,a,g.2.2.1,(g.2.2.1.length:Int),(k:Int),d)/\d.length=g.2.1.length/\MSn false g d/\(a=true->yd d<yd r)/\(a=false->d=r/\∀i,i<k->∀p,g.2.2.1[i]?=some p->mkT false r p)) g.2.2.1.length waa.fst ⟨0,false,r,by omega,by omega,rfl,Y,G,λh=>(by cases h),λ_=>⟨rfl,λi E=>by omega⟩⟩ λm2 s⟨k,a,d,hk,a5,u,f,e,B,D⟩ ny V=>?_;subst u;dsimp only;refine wab (λc=>?_) (λc=>?_)
 ·have c:=wcd c;have y:k<g.2.2.1.length:=by omega
  have l:g.2.2.1[k]∈g.2.2.1:=wcm y;refine wac _ (atN y) ?_;have C:g.2.2.1[k]?=some g.2.2.1[k]:=wcf y;obtain⟨p,ep⟩:∃p,g.2.2.1[k]=p:=⟨_,rfl⟩
  rw[ep]at l C⊢;obtain⟨l0,l1⟩:=A.left p l;have Q:=A.items p l;have a7:=A.len p l;obtain⟨q,L⟩:∃q:Nat,p.1=q:=⟨p.1.toNat,by omega⟩
  have o:q<d.length:=by omega
  refine Tt.J (λs=>∃(a:Bool)(d:List Bool),s=(g.2.2.1,a,g.2.2.1,(g.2.2.1.length:Int),(k:Int),d)/\d.length=g.2.1.length/\MSn false g d/\(a=true->yd d<yd r)/\(a=false->d=r/\∀i,i<k+1->∀p,g.2.2.1[i]?=some p->mkT false r p)) (λnz z=>?_) (λs⟨a,d,u,f,e,B,D⟩=>?_)
  ·have keep:mkT false d p->(a=false->d=r/\∀i,i<k+1->∀p,g.2.2.1[i]?=some p->mkT false r p):=λhe T=>by
    obtain⟨I,M⟩:=D T;refine⟨I,λi E x v=>?_⟩;by_cases P:i<k
    ·exact M i P x v
    ·have:i=k:=by omega
     subst this;rw[C]at v;cases v;rw[<- I];exact he
   rw[L];refine wac _ (qv o) (wac _ (atN o) ?_);refine wab (λc=>z _ ⟨a,d,rfl,f,e,B,keep λ_=>?_⟩) (λc=>?_)
   ·rw[L,wcx,wcf o,c]
   ·have W:d[q]?=some false:=by rw[wcf o,c]
    refine Tt.loop (λm s=>∃i:Nat,i<=p.2.1.length/\m=p.2.1.length-i/\s=(p.2.1,(p.2.1.length:Int),(i:Int),d,p)/\∀(j:Nat)(x:ji),j<i->p.2.1[j]?=some x->IPt false d x) p.2.1.length waa.fst.fst ⟨0,by omega,by omega,rfl,λj x h=>by omega⟩ λm3 s⟨i,E,a6,u,n⟩ nw U=>?_;subst u;dsimp only;refine wab (λc=>?_) (λc=>?_)
    ·have c:=wcd c;have w:i<p.2.1.length:=by omega
     have H:p.2.1[i]∈p.2.1:=wcm w;refine wac _ (atN w) (Waa (item1F g _ d f (Q _ H)) waa.fst.fst.fst λb K=>?_);refine wab (λcb=>z.fst _ ⟨a,d,rfl,f,e,B,keep λn=>?_⟩) (λN=>wad ?_)
     ·have:=K.2 (n _ H);rw[this]at cb;cases cb
     ·rw[wI (by omega) (by omega)];refine U (p.2.1.length-(i+1)) _ (by omega) ⟨i+1,by omega,rfl,rfl,λj x R v=>?_⟩;by_cases S:j<i
      ·exact n j x S v
      ·have:j=i:=by omega
       subst this;rw[wcf w]at v;cases v;exact K.1 (by simpa using N)
    ·rw[L];refine wac _ (qv o) (wac _ (zm true o) (z.fst _ ⟨true,_,rfl,by simpa using f,e.set l (λx v=>?_) (by rw[L];rfl),λ_=>?_,λh=>by cases h⟩))
     ·have c:=wce c;obtain⟨j,R⟩:=wdc v;exact n j x (by have:=(wcg.1 R).1;omega) R
     have:=zem W;cases t:a with
     |true=>have:=B t;omega
     |false=>have:=(D t).1;subst this;omega
  ·subst u;dsimp only;refine wad ?_;rw[wI (by omega) (by omega)];exact V (g.2.2.1.length-(k+1)) _ (by omega) ⟨k+1,a,d,by omega,rfl,by simp,f,e,B,D⟩
 ·have c:=wce c;cases t:a with
  |true=>
   have:=B t;exact Tt.fst (F (2*yd d+1) _ (by omega) ⟨true,d,rfl,rfl,f,e,λh=>by cases h⟩)
  |false=>
   obtain⟨I,M⟩:=D t;subst I;exact Tt.fst (F (2*yd d) _ (by omega) ⟨false,d,rfl,rfl,f,e,λ_ p Z=>by
    obtain⟨i,E⟩:=wdc Z;exact M i (by have:=(wcg.1 E).1;omega) p E⟩)
theorem jcq(g:jb)(l:List ji)(r:List Bool)(o:Bool)(H:l.length<=1000000)(K:r.length=g.2.1.length)(C:∀x∈l,zao g x):Tn (λF=>zcq F l r o) (λb=>b=true↔∀x∈l,IPt o r x):=by
 unfold zcq;refine Tt.loop (λm s=>∃k:Nat,k<=l.length/\m=l.length-k/\s=(l,r,o,(k:Int))/\∀(j:Nat)(x:ji),j<k->l[j]?=some x->IPt o r x) l.length waa ⟨0,by omega,by omega,rfl,λj x h=>by omega⟩ λm s⟨k,G,I,w,e⟩ L v=>?_;subst w;dsimp only;refine wab (λc=>?_) (λc=>Tt.pure ?_)
 ·have c:=wcd c;have i:k<l.length:=by omega
  have a:=atN i;have f:=wcf i;have d:=wcm i;generalize l[k]=x at a f d;obtain⟨D,E⟩:=C x d;refine Tt.J (λs=>∃b,s=(l,r,o,(k:Int),b)/\(b=true↔¬IPt o r x)) (λM n=>?_) (λs⟨b,w,B⟩=>?_)
  ·refine wac _ a (wad ?_);cases p:x.1 with
   |false=>
    refine wah rfl ?_;cases o with
    |false=>exact wah rfl (n _ ⟨_,rfl,by unfold IPt;simp[p]⟩)
    |true=>
     refine wae rfl (wac _ a ?_);rw[p];exact wae rfl (n _ ⟨_,rfl,by unfold IPt;simp[p]⟩)
   |true=>
    rw[if_pos p]at E;refine wae rfl (wac _ a ?_);rw[p];refine wah rfl (wac _ a ?_);have hz:x.2.1.toNat<r.length:=by omega
    refine wac _ (Jo D (wcf hz)) (n _ ⟨_,rfl,?_⟩);unfold IPt;rw[wcf hz];simp[p]
  ·subst w;dsimp only;refine wab (λq=>Tt.pure ?_) λq=>wad ?_
   ·have:=B.1 q;constructor
    ·intro h;cases h
    ·intro h;exact absurd (h x d) this
   ·rw[wI (by omega) (by omega)];refine v (l.length-(k+1)) _ (by omega) ⟨k+1,by omega,rfl,rfl,λj y t A=>?_⟩;by_cases u:j<k
    ·exact e j y u A
    ·have:j=k:=by omega
     subst this;rw[f]at A;cases A;exact weu λh=>by rw[B.2 h]at q;cases q
 ·have c:=wce c;simp only[true_iff];intro x z;obtain⟨j,t⟩:=wdc z;exact e j x (by have:=(wcg.1 t).1;omega) t
theorem zr6(g:jb)(L:zc4 g)(hz:gFd g=zd)(v:GOk g)(d:Bool):Tn (λnn=>zco nn g d) (λr=>r.length=g.2.1.length/\(∀p∈g.2.2.1,mkT d r p)/\MSn d g r):=by
 unfold zco zf8;refine Waa (Z7 g L) waa λb K=>?_;have N:=K.2 hz;subst N;refine wae rfl ?_;have hp:=L.p;have hr:=L.r;have Z:=v.r;refine wad (wac _ (mkN L.r (by omega)) ?_);refine Tt.loop (λm s=>∃(k:Nat)(r:List Bool),k<=g.2.1.length+1/\m=g.2.1.length+1-k/\s=(d,(k:Int),g,r)/\r.length=g.2.1.length/\MSn d g r/\((∀p∈g.2.2.1,mkT d r p)\/yd r+k<=g.2.1.length)) (g.2.1.length+1) waa ⟨0,_,by omega,by omega,rfl,by simp,MSn.nil _ _,.inr (by have:=z25 (List.replicate g.2.1.length false);simp at this;omega)⟩ λm s⟨k,r,hk,Y,E,R,F,A⟩ nx S=>?_;subst E;dsimp only;refine wab (λc=>?_) (λc=>Tt.pure ⟨R,?_,F⟩)
 ·have c:=wcd c;refine Tt.loop (λm s=>∃(i:Nat)(u:List Bool),i<=g.2.2.1.length/\m=g.2.2.1.length-i/\s=(d,(k:Int),(i:Int),g,u)/\MSn d g u/\Psd r u (∀p∈g.2.2.1,mkT d r p) (∀(j:Nat)(p:jh),j<i->g.2.2.1[j]?=some p->mkT d r p)) g.2.2.1.length waa.fst ⟨0,r,by omega,by omega,rfl,F,⟨rfl,wcq _,λ_=>⟨rfl,λj p h=>by omega⟩,λ_=>rfl⟩⟩ λm s⟨i,u,a2,a4,E,t,n⟩ ny T=>?_;subst E;dsimp only;refine wab (λz=>?_) (λz=>?_)
  ·have z:=wcd z;have x:i<g.2.2.1.length:=by omega
   have B:g.2.2.1[i]?=some g.2.2.1[i]:=wcf x;have w:=atN x;have a:g.2.2.1[i]∈g.2.2.1:=wcm x;generalize g.2.2.1[i]=p at B w a;obtain⟨l0,l1⟩:=v.left p a;have O:=v.items p a;have a5:=v.len p a;obtain⟨q,M⟩:∃q:Nat,p.1=q:=⟨p.1.toNat,by omega⟩
   have U:u.length=g.2.1.length:=by rw[n.l];exact R
   have y:q<u.length:=by omega
   refine Tt.J (λs=>∃H,s=(d,(k:Int),(i:Int),g,H)/\MSn d g H/\Psd r H (∀p∈g.2.2.1,mkT d r p) (∀(j:Nat)(p:jh),j<i+1->g.2.2.1[j]?=some p->mkT d r p)) (λnz C=>?_) (λs⟨H,E,G,D⟩=>?_)
   ·have ext:mkT d r p->(∀(j:Nat)(p:jh),j<i->g.2.2.1[j]?=some p->mkT d r p)->∀(j:Nat)(p:jh),j<i+1->g.2.2.1[j]?=some p->mkT d r p:=λY h j p2 P o=>by
     by_cases Q:j<i
     ·exact h j p2 Q o
     ·have:j=i:=by omega
      subst this;rw[B]at o;cases o;exact Y
    refine wac _ w (Waa (jcq g p.2.1 u d (by omega) U O) waa.fst.fst λb K=>?_);refine wab (λI=>?_) λI=>C _ ⟨u,rfl,t,n.mono λh e=>ext (λf=>?_) h⟩
    ·have f:=K.1 I;refine wac _ w ?_;rw[M];refine wac _ (qv y) (wac _ (zm true y) (C _ ⟨_,rfl,t.set a f (by rw[M];rfl),n.set y (λW=>?_) λh V=>ext (λ_=>by rw[M];exact V) h⟩));have e:=n.cl W;have:=W p a (by rw[<- e];exact f);rw[M]at this;rw[e];exact this
    ·rw[<- e]at f;rw[K.2 f]at I;cases I
   ·subst E;refine wad ?_;dsimp only;rw[wI (by omega) (by omega)];exact T (g.2.2.1.length-(i+1)) _ (by omega) ⟨i+1,H,by omega,rfl,rfl,G,D⟩
  ·have z:=wce z;refine wad ?_;rw[wI (by omega) (by omega)];refine(S (g.2.1.length+1-(k+1)) _ (by omega) ⟨k+1,u,by omega,rfl,rfl,by rw[n.l];exact R,t,?_⟩).fst;by_cases X:yd u=yd r
   ·obtain⟨e1,e2⟩:=n.eq X;left;intro p o;rw[e1];obtain⟨j,P⟩:=wdc o;exact e2 j p (by have:=(wcg.1 P).1;omega) P
   ·have a3:=n.le;rcases A with h|h
    ·exact absurd (by rw[n.cl h]) X
    ·right;omega
 ·have c:=wce c;rcases A with h|h
  ·exact h
  ·omega
theorem z17{n:Nat}{a b:List Bool}(g:a.length=n)(j:b.length=n)(h:∀i:Nat,a[i]?=some true↔b[i]?=some true):a=b:=by
 apply wfp (by omega);intro i e f;have:=h i;rw[wcf e,wcf f]at this;cases c:a[i]<;>cases d:b[i]<;>simp[c,d]at this⊢
theorem jkj{g:jb}{r:List Bool}(h0:r[g.2.2.2.1.toNat]?=some true)(b:∀p∈g.2.2.1,reC r p){i:Nat}(h:ReG g i):r[i]?=some true:=by
 induction h with
 |start=>exact h0
 |step c _ d a e=>exact b _ c e _ d a
theorem jg4{b:Bool}{g:jb}{r:List Bool}(d:∀p∈g.2.2.1,mkT b r p){i:Nat}(h:MkG b g i):r[i]?=some true:=by
 induction h with
 |mk e _ c f=>exact d _ e λx a=>⟨f x a,c x a⟩
theorem z59{g:jb}{a b:List Bool}(c:a.length=g.2.1.length/\a[g.2.2.2.1.toNat]?=some true/\(∀p∈g.2.2.1,reC a p)/\∀i,a[i]?=some true->ReG g i)(d:b.length=g.2.1.length/\b[g.2.2.2.1.toNat]?=some true/\(∀p∈g.2.2.1,reC b p)/\∀i,b[i]?=some true->ReG g i):a=b:=
 z17 c.1 d.1 λi=>⟨λh=>jkj d.2.1 d.2.2.1 (c.2.2.2 i h),λh=>jkj c.2.1 c.2.2.1 (d.2.2.2 i h)⟩
theorem z5q{c:Bool}{g:jb}{a b:List Bool}(d:a.length=g.2.1.length/\(∀p∈g.2.2.1,mkT c a p)/\MSn c g a)(e:b.length=g.2.1.length/\(∀p∈g.2.2.1,mkT c b p)/\MSn c g b):a=b:=
 z17 d.1 e.1 λi=>⟨λh=>jg4 e.2.1 (d.2.2 i h),λh=>jg4 d.2.1 (e.2.2 i h)⟩
inductive FiL(em:List Bool)(ps:List jh)(t:Int):List ji->Prop
 |tok {x:ji}{l:List ji}:x.1=false->t=x.2.1->FiL em ps t (x::l)
 |rule {x:ji}{l:List ji}{p:jh}:x.1=true->p∈ps->p.1.toNat=x.2.1.toNat->FiL em ps t p.2.1->FiL em ps t (x::l)
 |skip {x:ji}{l:List ji}:x.1=true->em.getD x.2.1.toNat false=true->FiL em ps t l->FiL em ps t (x::l)
def FiG(em:List Bool)(ps:List jh)(i:Nat)(t:Int):Prop:=∃p,p∈ps/\p.1.toNat=i/\FiL em ps t p.2.1
def FSn(g:jb)(em:List Bool)(al:List (List Int)):Prop:=∀(i:Nat)(t:Int),t∈al.getD i []->FiG em g.2.2.1 i t
structure FRn(g:jb)(em:List Bool)(al:List (List Int)):Prop where
 r:∀l∈al,RN g.1.length l
 s:FSn g em al
theorem FSn.nil{g:jb}{em:List Bool}(n:Nat):FSn g em (List.replicate n []):=λi t h=>by
 have:(List.replicate n ([]:List Int)).getD i []=[]:=by
  simp only[wdg,wdf];split<;>rfl
 rw[this]at h;cases h
theorem FSn.inF{g:jb}{em:List Bool}{al:List (List Int)}(h:FSn g em al){t:Int}:∀{its:List ji},inF em al t its->FiL em g.2.2.1 t its
 |[],a=>by cases a
 |x::l,a=>by
  unfold T.inF at a;by_cases b:x.1=true
  ·rw[if_pos b]at a;rcases a with c|⟨c,d⟩
   ·obtain⟨p,i,e,f⟩:=h _ _ c;exact .rule b i e f
   ·exact .skip b c (FSn.inF h d)
  ·rw[if_neg b]at a;exact .tok (by simpa using b) a
theorem FSn.set{g:jb}{em:List Bool}{al:List (List Int)}(h:FSn g em al){q:Nat}{u:List Int}(b:q<al.length)(c:∀t∈u,FiG em g.2.2.1 q t):FSn g em (al.set q u):=λi t a=>by
 simp only[wdg,wc8]at a;split at a
 ·rename_i e;subst e;simp only[b,if_true,wda]at a;exact c t a
 ·exact h i t (by simpa only [wdg]using a)
theorem jn7(g:jb)(hg:Y1 g)(hR:GR g)(C:GOk g)(em:List Bool)(hE:Tn (λnn=>yl nn g) (λr=>r=em))(U:em.length=g.2.1.length):
  Tn (λnn=>Jl nn g) (λr=>∃al,r=some (em,al,())/\al.length=g.2.1.length/\FRn g em al/\∀p∈g.2.2.1,fiC em al p):=by
 have hp:=hg.p;have ht:=C.t;unfold Jl;refine Waa hR waa λb hb=>?_;subst hb;refine wae rfl ?_;refine Waa hE waa λr hr=>?_;subst hr;refine wad (wac _ (mkN hg.r (by omega)) ?_);refine Tt.loop (λm s=>∃(a:Bool)(al:List (List Int)),m=2*J4 g.1.length al+(if a=true then 1 else 0)/\s=(a,g,r,al)/\al.length=g.2.1.length/\FRn g r al/\(a=false->∀p∈g.2.2.1,fiC r al p)) (2*J4 g.1.length (List.replicate g.2.1.length [])+1) waa ⟨true,_,rfl,rfl,by simp,⟨λl Q=>by rw[List.eq_of_mem_replicate Q];exact RN.nil _,FSn.nil _⟩,λh=>by cases h⟩ λm s⟨a,al,hm,M,Q,K,S⟩ nx G=>?_;subst M;dsimp only;refine wab (λc=>?_) (λc=>Tt.pure ⟨al,rfl,Q,K,S c⟩);subst c;rw[if_pos rfl]at hm;refine Tt.loop (λm s=>∃(k:Nat)(a:Bool)(j:List (List Int)),k<=g.2.2.1.length/\m=g.2.2.1.length-k/\s=(a,g.2.2.1,(g.2.2.1.length:Int),(k:Int),g,r,j)/\j.length=g.2.1.length/\FRn g r j/\(a=true->J4 g.1.length j<J4 g.1.length al)/\(a=false->j=al/\∀i,i<k->∀p,g.2.2.1[i]?=some p->fiC r al p)) g.2.2.1.length waa.fst ⟨0,false,al,by omega,by omega,rfl,Q,K,λh=>(by cases h),λ_=>⟨rfl,λi P=>by omega⟩⟩ λm2 s⟨k,a,j,hk,b6,M,y,d,B,A⟩ ny Y=>?_;subst M;dsimp only;refine wab (λc=>?_) (λc=>?_)
 ·have c:=wcd c;have D:k<g.2.2.1.length:=by omega
  have w:g.2.2.1[k]∈g.2.2.1:=wcm D;refine wac _ (atN D) ?_;have F:g.2.2.1[k]?=some g.2.2.1[k]:=wcf D;obtain⟨p,ep⟩:∃p,g.2.2.1[k]=p:=⟨_,rfl⟩
  rw[ep]at w F⊢;obtain⟨l0,l1⟩:=C.left p w;have W:=C.items p w;have b7:=C.len p w;obtain⟨q,Z⟩:∃q:Nat,p.1=q:=⟨p.1.toNat,by omega⟩
  have v:q<j.length:=by omega
  refine Tt.J (λs=>∃(a:Bool)(j:List (List Int)),s=(a,g.2.2.1,(g.2.2.1.length:Int),(k:Int),g,r,j)/\j.length=g.2.1.length/\FRn g r j/\(a=true->J4 g.1.length j<J4 g.1.length al)/\(a=false->j=al/\∀i,i<k+1->∀p,g.2.2.1[i]?=some p->fiC r al p)) (λnz H=>?_) (λs⟨a,j,M,y,d,B,A⟩=>?_)
  ·rw[Z];have I:RN g.1.length j[q]:=d.r _ (wcm v);refine wac _ (qv v) (wac _ (atN v) ?_);refine Waa (jgt g C r j U y d.r p.2.1 (by omega) W) waa.fst.fst λf⟨f1,f2⟩=>?_;refine Waa (ze4 (n:=g.1.length) (by omega) I f1) waa.fst.fst λu⟨u1,u2⟩=>?_;refine wac _ (qv v) (wac _ (atN v) (wac _ (qv v) (wac _ (zm u v) ?_)));have L:FRn g r (j.set q u):=⟨λl h=>by
    rcases wd9 h with h|h
    ·exact d.r l h
    ·rw[h];exact u1,d.s.set v λt ht=>by
    rcases(u2 t).1 ht with h|h
    ·exact d.s q t (by simpa [List.getD,v]using h)
    ·exact⟨p,w,by rw[Z];rfl,d.s.inF ((f2 t).1 h)⟩⟩
   have X:(j.set q u).length=g.2.1.length:=by rw[web];exact y
   obtain⟨s1,s2⟩:=zhl I.r u1.r λx O=>(u2 x).2 (.inl O);refine wab (λc=>H _ ⟨true,_,rfl,X,L,λ_=>?_,λh=>by cases h⟩) (λc=>?_)
   ·have c:=wcd c;have:=zjb (T:=g.1.length) (al:=j) (k:=q) (o:=j[q]) (n:=u) (wcf v) (by omega) u1.len;cases z:a with
    |true=>have:=B z;omega
    |false=>have:=(A z).1;subst this;omega
   ·have c:=wce c;have e:=s2 (by omega);have es:j.set q u=j:=by rw[<- e];exact List.set_getElem_self v
    rw[es];refine H _ ⟨a,j,rfl,y,d,B,λz=>?_⟩;obtain⟨E,R⟩:=A z;refine⟨E,λi P x O=>?_⟩;by_cases V:i<k
    ·exact R i V x O
    ·have:i=k:=by omega
     subst this;rw[F]at O;cases O;intro t N;rw[Z,wcx];have h1:t∈u:=(u2 t).2 (.inr ((f2 t).2 (E▸N)));rw[<- e]at h1;have:al.getD q []=j[q]:=by rw[<- E];simp[List.getD,v]
     rw[this];exact h1
  ·subst M;dsimp only;refine wad ?_;rw[wI (by omega) (by omega)];exact Y (g.2.2.1.length-(k+1)) _ (by omega) ⟨k+1,a,j,by omega,rfl,by simp,y,d,B,A⟩
 ·have c:=wce c;cases z:a with
  |true=>
   have:=B z;exact Tt.fst (G (2*J4 g.1.length j+1) _ (by omega) ⟨true,j,rfl,rfl,y,d,λh=>by cases h⟩)
  |false=>
   obtain⟨E,R⟩:=A z;subst E;exact Tt.fst (G (2*J4 g.1.length j) _ (by omega) ⟨false,j,rfl,rfl,y,d,λ_ p hp=>by
    obtain⟨i,P⟩:=wdc hp;exact R i (by have:=(wcg.1 P).1;omega) p P⟩)
theorem z4z{a b:List Int}(d:jy a)(e:jy b)(h:∀x,x∈a↔x∈b):a=b:=by
 obtain⟨i,f⟩:=zhl d e λx c=>(h x).1 c;obtain⟨g,_⟩:=zhl e d λx c=>(h x).2 c;exact f g
theorem jki{n N:Nat}{a b:List (List Int)}(g:a.length=n)(j:b.length=n)(e:∀l∈a,RN N l)(f:∀l∈b,RN N l)(h:∀(i:Nat)(t:Int),t∈a.getD i []↔t∈b.getD i []):a=b:=by
 apply wfp (by omega);intro i c d;refine z4z (e _ (wcm c)).r (f _ (wcm d)).r λx=>?_;have:=h i x;simpa [wdg,c,d]using this
theorem zv4{em:List Bool}{al:List (List Int)}{B C:List Int}(h:∀y∈B,y∈C){t:Int}:∀{l:List ji},inT em al B t l->inT em al C t l
 |[],a=>h _ a
 |x::l,a=>by
  unfold inT at a⊢;by_cases c:x.1=true
  ·rw[if_pos c]at a⊢;exact a.imp id λb=>⟨b.1,zv4 h b.2⟩
  ·rw[if_neg c]at a⊢;exact a
inductive FoL(ps:List jh)(st:Nat)(en:Int)(em re:List Bool)(al:List (List Int)):Nat->Int->Prop
 |fin:FoL ps st en em re al st en
 |step {p:jh}{j:Nat}{x:ji}{t:Int}(B:List Int):p∈ps->re[p.1.toNat]?=some true->p.2.1[j]?=some x->x.1=true->(∀y,y∈B->FoL ps st en em re al p.1.toNat y)->inT em al B t (p.2.1.drop (j+1))->FoL ps st en em re al x.2.1.toNat t
def FoG(g:jb)(em re:List Bool)(al:List (List Int)):Nat->Int->Prop:=FoL g.2.2.1 g.2.2.2.1.toNat (g.1.length:Int) em re al
structure FoR(g:jb)(em re:List Bool)(al:List (List Int))(T:Nat)(B:List (List Int)):Prop where
 r:∀l∈B,RN T l
 s:∀(i:Nat)(t:Int),t∈B.getD i []->FoG g em re al i t
theorem jg0{P:Nat->Int->Prop}{B:List (List Int)}(h:∀(i:Nat)(t:Int),t∈B.getD i []->P i t){z:Nat}{u:List Int}(hz:z<B.length)(b:∀t∈u,P z t):∀(i:Nat)(t:Int),t∈(B.set z u).getD i []->P i t:=λi t a=>by
 simp only[wdg,wc8]at a;split at a
 ·rename_i e;subst e;simp only[hz,if_true,wda]at a;exact b t a
 ·exact h i t (by simpa only [wdg]using a)
theorem jdy(g:jb)(hg:Y1 g)(hR:GR g)(R:GOk g)(em re:List Bool)(al:List (List Int))(hE:Tn (λnn=>yl nn g) (λr=>r=em))(i4:em.length=g.2.1.length)(hl:al.length=g.2.1.length)(g1:∀l∈al,RN g.1.length l)(hA:Tn (λnn=>zc2 nn g) (λr=>r=al))(f0:Tn (λnn=>yy nn g) (λr=>r=re))(j0:re.length=g.2.1.length):
  Tn (λnn=>Vc nn g) (λB=>B.length=g.2.1.length/\FoR g em re al (g.1.length+1) B/\(g.1.length:Int)∈B.getD g.2.2.2.1.toNat []/\∀p∈g.2.2.1,re[p.1.toNat]?=some true->foC em al B p):=by
 unfold Vc;refine Waa hR waa λb hb=>?_;subst hb;refine wae rfl ?_;have hp:=hg.p;have j2:=R.t;refine Waa hA waa λr hr=>?_;subst hr;refine Waa hE waa λe he=>?_;subst he;refine Waa f0 waa λw hw=>?_;subst hw;refine wad (wac _ (mkN hg.r (by omega)) ?_);refine Waa (jm9 g hR) waa λen f2=>?_;subst f2;obtain⟨st,b4⟩:∃st:Nat,g.2.2.2.1=st:=⟨g.2.2.2.1.toNat,by have:=R.start;omega⟩
 have j1:=R.start.2;rw[b4];have Z:st<(List.replicate g.2.1.length ([]:List Int)).length:=by simp;omega
 refine wac _ (qv Z) (wac _ (zm _ Z) ?_);rw[wcx];obtain⟨T,hT⟩:∃T,g.1.length+1=T:=⟨_,rfl⟩
 rw[hT];refine Tt.loop (λm s=>∃(d:Bool)(B:List (List Int)),m=2*J4 T B+(if d=true then 1 else 0)/\s=(d,g,r,e,w,B)/\B.length=g.2.1.length/\FoR g e w r T B/\(g.1.length:Int)∈B.getD st []/\(d=false->∀p∈g.2.2.1,w[p.1.toNat]?=some true->foC e r B p)) (2*J4 T ((List.replicate g.2.1.length []).set st [(g.1.length:Int)])+1) waa ⟨true,_,rfl,rfl,by simp,⟨λl hl=>?_,?_⟩,?_,λh=>by cases h⟩ λm s⟨d,B,hm,S,c0,c1,b9,f1⟩ nx c9=>?_
 ·rcases wd9 hl with h|h
  ·rw[List.eq_of_mem_replicate h];exact RN.nil _
  ·rw[h];exact RN.one (by omega) (by omega)
 ·refine jg0 (P:=FoG g e w r) (λi t h=>?_) Z λt h=>?_
  ·have:(List.replicate g.2.1.length ([]:List Int)).getD i []=[]:=by
    simp only[wdg,wdf];split<;>rfl
   rw[this]at h;cases h
  ·rw[wci.1 h];have:=FoL.fin (ps:=g.2.2.1) (st:=g.2.2.2.1.toNat) (en:=(g.1.length:Int)) (em:=e) (re:=w) (al:=r);rw[b4,wcx]at this;unfold FoG;rw[b4,wcx];exact this
 ·simp only[List.getD,wc8];simp at Z;simp[Z]
 subst S;dsimp only;refine wab (λc=>?_) (λc=>Tt.pure ⟨c0,c1,b9,f1 c⟩);subst c;rw[if_pos rfl]at hm;refine Tt.loop (λm s=>∃(k:Nat)(d:Bool)(f:List (List Int)),k<=g.2.2.1.length/\m=g.2.2.1.length-k/\s=(d,g.2.2.1,(g.2.2.1.length:Int),(k:Int),g,r,e,w,f)/\f.length=g.2.1.length/\FoR g e w r T f/\(g.1.length:Int)∈f.getD st []/\(d=true->J4 T f<J4 T B)/\(d=false->f=B/\∀i,i<k->∀p,g.2.2.1[i]?=some p->w[p.1.toNat]?=some true->foC e r B p)) g.2.2.1.length waa.fst ⟨0,false,B,by omega,by omega,rfl,c0,c1,b9,λh=>(by cases h),λ_=>⟨rfl,λi hi=>by omega⟩⟩ λm2 s⟨k,d,f,hk,i6,S,Q,I,O,ht,hf⟩ ny g0=>?_;subst S;dsimp only;refine wab (λc=>?_) (λc=>?_)
 ·have c:=wcd c;have b1:k<g.2.2.1.length:=by omega
  have H:g.2.2.1[k]∈g.2.2.1:=wcm b1;have b8:g.2.2.1[k]?=some g.2.2.1[k]:=wcf b1;refine Tt.J (λs=>∃(d:Bool)(f:List (List Int)),s=(d,g.2.2.1,(g.2.2.1.length:Int),(k:Int),g,r,e,w,f)/\f.length=g.2.1.length/\FoR g e w r T f/\(g.1.length:Int)∈f.getD st []/\(d=true->J4 T f<J4 T B)/\(d=false->f=B/\∀i,i<k+1->∀p,g.2.2.1[i]?=some p->w[p.1.toNat]?=some true->foC e r B p)) (λnz d0=>?_) (λs⟨d,f,S,Q,I,O,ht,hf⟩=>?_)
  ·refine wac _ (atN b1) ?_;obtain⟨p,ep⟩:∃p,g.2.2.1[k]=p:=⟨_,rfl⟩
   rw[ep]at H b8⊢;obtain⟨l0,l1⟩:=R.left p H;have f4:=R.items p H;have i8:=R.len p H;obtain⟨q,hq⟩:∃q:Nat,p.1=q:=⟨p.1.toNat,by omega⟩
   have b3:q<w.length:=by omega
   have Y:q<f.length:=by omega
   refine Tt.J (λs=>∃(a:Bool)(A:List (List Int)),s=(d,g.2.2.1,(g.2.2.1.length:Int),(k:Int),a,g,r,e,w,A)/\A.length=g.2.1.length/\FoR g e w r T A/\(g.1.length:Int)∈A.getD st []/\(a=true->J4 T A<J4 T f)/\(a=false->A=f/\(w[q]?=some true->foC e r f p))) (λnw c8=>?_) (λs⟨a,A,S,G,E,F,N,M⟩=>?_)
   ·rw[hq];refine wac _ (atN b3) ?_;refine wab (λcw=>?_) (λcw=>c8 _ ⟨false,f,rfl,Q,I,O,λh=>(by cases h),λ_=>⟨rfl,λh=>?_⟩⟩)
    ·refine wac _ (qv Y) (wac _ (atN Y) (wad ?_));rw[wI (by omega) (by omega)];refine Tt.loop (λm s=>∃(i:Nat)(D:List Int)(a:Bool)(A:List (List Int)),i<=p.2.1.length/\m=i/\s=(D,(i:Int)-1,r,e,w,A,p,a)/\RN T D/\(∀t,t∈D↔inT e r f[q] t (p.2.1.drop i))/\A.length=g.2.1.length/\FoR g e w r T A/\(g.1.length:Int)∈A.getD st []/\(a=true->J4 T A<J4 T f)/\(a=false->A=f/\∀j,i<=j->∀x,p.2.1[j]?=some x->x.1=true->∀t,inT e r f[q] t (p.2.1.drop (j+1))->t∈f.getD x.2.1.toNat [])) p.2.1.length waa.fst.fst ⟨p.2.1.length,f[q],false,f,by omega,rfl,rfl,I.r _ (wcm Y),λt=>by rw[wd3];rfl,Q,I,O,λh=>(by cases h),λ_=>⟨rfl,λj hj x hx=>by rw[wdt (by omega)]at hx;cases hx⟩⟩ λm3 s⟨i,D,a,A,hi,i7,S,a7,a0,G,E,F,N,M⟩ nv f9=>?_;subst S;dsimp only;refine wab (λc=>?_) (λc=>?_)
     ·have c:=wcd c;obtain⟨i,rfl⟩:∃i',i=i'+1:=⟨i-1,by omega⟩
      have ei:((i+1:Nat):Int)-1=(i:Int):=by omega
      rw[ei];have a5:i<p.2.1.length:=by omega
      have d5:p.2.1[i]∈p.2.1:=wcm a5;have a3:p.2.1[i]?=some p.2.1[i]:=wcf a5;have a4:p.2.1.drop i=p.2.1[i]::p.2.1.drop (i+1):=wc0 a5;refine Tt.J (λs=>∃(D:List Int)(a:Bool)(A:List (List Int)),s=(D,(i:Int),r,e,w,A,p,a)/\RN T D/\(∀t,t∈D↔inT e r f[q] t (p.2.1.drop i))/\A.length=g.2.1.length/\FoR g e w r T A/\(g.1.length:Int)∈A.getD st []/\(a=true->J4 T A<J4 T f)/\(a=false->A=f/\∀j,i<=j->∀x,p.2.1[j]?=some x->x.1=true->∀t,inT e r f[q] t (p.2.1.drop (j+1))->t∈f.getD x.2.1.toNat [])) (λnu b2=>?_) (λs⟨D,a,A,S,a7,a0,G,E,F,N,M⟩=>?_)
      ·refine wac _ (atN a5) ?_;obtain⟨x,ex⟩:∃x,p.2.1[i]=x:=⟨_,rfl⟩
       rw[ex]at d5 a3 a4⊢;obtain⟨i1,i2⟩:=f4 x d5;refine wab (λU=>?_) (λU=>?_)
       ·have U:x.1=false:=by simpa using U
        rw[U]at i2;simp only[wdp,if_false]at i2;refine b2 _ ⟨_,a,A,rfl,RN.one i1 (by omega),λt=>?_,G,E,F,N,λhn=>?_⟩
        ·rw[a4];simp[inT,U]
        ·obtain⟨L,V⟩:=M hn;refine⟨L,λj hj y K a1=>?_⟩;by_cases b0:i+1<=j
         ·exact V j b0 y K a1
         ·have:j=i:=by omega
          subst this;rw[a3]at K;cases K;rw[U]at a1;cases a1
       ·have U:x.1=true:=by simpa using U
        rw[if_pos U]at i2;obtain⟨z,hz⟩:∃z:Nat,x.2.1=z:=⟨x.2.1.toNat,by omega⟩
        have C:z<A.length:=by omega
        have b5:z<e.length:=by omega
        have a2:z<r.length:=by omega
        rw[hz];refine wac _ (qv C) (wac _ (atN C) ?_);have c2:RN T A[z]:=E.r _ (wcm C);have d2:RN T r[z]:=(g1 _ (wcm a2)).up (by omega);refine Waa (zmb (n:=T) (by omega) c2 a7) waa.fst.fst.fst λu⟨u1,u2⟩=>?_;obtain⟨s1,s2⟩:=zhl c2.r u1.r λy K=>(u2 y).2 (.inl K);have c5:(A.set z u).length=g.2.1.length:=by rw[web];exact G
        have d1:FoR g e w r T (A.set z u):=⟨λl h=>by
         rcases wd9 h with h|h
         ·exact E.r l h
         ·rw[h];exact u1,jg0 E.s C λt h=>by
         rcases(u2 t).1 h with h|h
         ·exact E.s z t (by simpa [List.getD,C]using h)
         ·have h1:FoG g e w r x.2.1.toNat t:=FoL.step f[q] H (by rw[hq,wcx,wcf b3,cw]) a3 U (λy K=>by
           have h2:FoG g e w r q y:=I.s q y (by simpa [List.getD,Y]using K);have h3:p.1.toNat=q:=by omega
           rw[h3];exact h2) ((a0 t).1 h)
          rw[hz,wcx]at h1;exact h1⟩
        have c3:(g.1.length:Int)∈(A.set z u).getD st []:=z6n C (λy K=>(u2 y).2 (.inl K)) F;refine Tt.J (λs=>∃(a:Bool),s=((z:Int),u,r,e,w,A,a)/\(a=true->J4 T (A.set z u)<J4 T f)/\(a=false->A.set z u=f/\A=f/\A[z]=u/\∀j,i+1<=j->∀x,p.2.1[j]?=some x->x.1=true->∀t,inT e r f[q] t (p.2.1.drop (j+1))->t∈f.getD x.2.1.toNat [])) (λnt c7=>?_) (λs⟨a,S,d4,f3⟩=>?_)
        ·refine wab (λcn=>c7 _ ⟨true,rfl,λ_=>?_,λh=>by cases h⟩) (λcn=>?_)
         ·have h1:=N cn;by_cases f7:A[z].length<u.length
          ·have:=zjb (T:=T) (al:=A) (k:=z) (o:=A[z]) (n:=u) (wcf C) f7 u1.len;omega
          ·have L:=s2 (by omega);have es:A.set z u=A:=by rw[<- L];exact List.set_getElem_self C
           rw[es];exact h1
         ·obtain⟨L,V⟩:=M cn;refine wac _ (qv C) (wac _ (atN C) (c7 _ ⟨_,rfl,λh=>?_,λh=>?_⟩))
          ·have h:=wcd h;have:=zjb (T:=T) (al:=A) (k:=z) (o:=A[z]) (n:=u) (wcf C) (by omega) u1.len;rw[L]at this⊢;omega
          ·have h:=wce h;have e3:=s2 (by omega);have es:A.set z u=A:=by rw[<- e3];exact List.set_getElem_self C
           exact⟨es.trans L,L,e3,V⟩
        ·subst S;dsimp only;have W:(a=false->A.set z u=f/\∀j,i<=j->∀x,p.2.1[j]?=some x->x.1=true->∀t,inT e r f[q] t (p.2.1.drop (j+1))->t∈f.getD x.2.1.toNat []):=λhn=>by
          obtain⟨L,V,e3,e4⟩:=f3 hn;refine⟨L,λj hj y K a1 t a6=>?_⟩;by_cases b0:i+1<=j
          ·exact e4 j b0 y K a1 t a6
          ·have:j=i:=by omega
           subst this;rw[a3]at K;cases K;rw[hz,wcx];have g8:z<f.length:=by rw[<- V];exact C
           have h1:t∈u:=(u2 t).2 (.inr ((a0 t).2 a6));have h2:f.getD z []=u:=by rw[<- V,<- e3];simp[List.getD,C]
           rw[h2];exact h1
         refine wac _ (qv C) (wac _ (zm u C) (wac _ (atN b5) ?_));refine wab (λce=>?_) (λce=>?_)
         ·refine wac _ (atN a2) ?_;refine Waa (zmb (n:=T) (by omega) a7 d2) waa.fst.fst.fst λv⟨v1,v2⟩=>?_;refine b2 _ ⟨v,a,_,rfl,v1,λt=>?_,c5,d1,c3,d4,W⟩;rw[v2,a0,a4];simp only[inT,U,if_true,hz,wcx,List.getD,wcf b5,wcf a2,wda,ce,true_and];exact or_comm
         ·refine wac _ (atN a2) ?_;refine b2 _ ⟨_,a,_,rfl,d2,λt=>?_,c5,d1,c3,d4,W⟩;rw[a4];simp only[inT,U,if_true,hz,wcx,List.getD,wcf b5,wcf a2,wda,ce,wdp,false_and,or_false]
      ·subst S;dsimp only;refine wad ?_;rw[wI (by omega) (by omega)];exact f9 i _ (by omega) ⟨i,D,a,A,by omega,rfl,rfl,a7,a0,G,E,F,N,M⟩
     ·have c:=wce c;have:i=0:=by omega
      subst this;refine c8.fst _ ⟨a,A,rfl,G,E,F,N,λhn=>?_⟩;obtain⟨L,V⟩:=M hn;refine⟨L,λ_ j x hx g2 t a6=>V j (by omega) x hx g2 t ?_⟩;have:f.getD p.1.toNat []=f[q]:=by rw[hq];simp[List.getD,Y]
      rwa [this]at a6
    ·rw[wcf b3,cw]at h;cases h
   ·subst S;dsimp only;refine wab (λcn=>d0 _ ⟨true,A,rfl,G,E,F,λ_=>?_,λh=>by cases h⟩) (λcn=>?_)
    ·have:=N cn;cases X:d with
     |true=>have:=ht X;omega
     |false=>have:=(hf X).1;subst this;omega
    ·obtain⟨L,V⟩:=M cn;subst L;refine d0 _ ⟨d,A,rfl,G,E,F,ht,λf8=>?_⟩;obtain⟨e3,e4⟩:=hf f8;refine⟨e3,λj hj y K=>?_⟩;by_cases f6:j<k
     ·exact e4 j f6 y K
     ·have:j=k:=by omega
      subst this;rw[b8]at K;cases K;rw[hq,wcx,<- e3];exact V
  ·subst S;dsimp only;refine wad ?_;rw[wI (by omega) (by omega)];exact g0 (g.2.2.1.length-(k+1)) _ (by omega) ⟨k+1,d,f,by omega,rfl,by simp,Q,I,O,ht,hf⟩
 ·have c:=wce c;cases X:d with
  |true=>
   have:=ht X;exact Tt.fst (c9 (2*J4 T f+1) _ (by omega) ⟨true,f,rfl,rfl,Q,I,O,λh=>by cases h⟩)
  |false=>
   obtain⟨L,V⟩:=hf X;subst L;exact Tt.fst (c9 (2*J4 T f) _ (by omega) ⟨false,f,rfl,rfl,Q,I,O,λ_ p hp=>by
    obtain⟨i,hi⟩:=wdc hp;exact V i (by have:=(wcg.1 hi).1;omega) p hi⟩)
def RsM(m:PM):Prop:=∀e∈m,jy e.2
def RsB(i:Int)(m:PM):Prop:=∀e∈m,jy e.2/\∀x∈e.2,x<i
def RsT(i left:Int)(ts:List Int)(m:PM):Prop:=∀e∈m,jy e.2/\(∀x∈e.2,x<=i)/\((∃t∈ts,e.1=(left,t))->∀x∈e.2,x<i)
theorem jbl{m l:PM}{a:Int×Int}{v:Int}(h:zit plq 8 m a v=some l):∀e∈l,e∈m\/e=(a,[v])\/∃f∈m,f.1=a/\e=(a,f.2++[v]):=by
 unfold zit at h;cases g:kIx plq a (m.map (·.1))with
 |none=>
  rw[g]at h;dsimp only at h;obtain⟨z,hz,rfl⟩:=wcs.1 h;obtain⟨_,_,rfl⟩:=z83 hz;intro e c;rcases wco.1 c with b|b
  ·exact .inl b
  ·rw[wci.1 b];exact .inr (.inl rfl)
 |some j=>
  rw[g]at h;dsimp only at h;obtain⟨x,k,c⟩:=zar g;have c:=zus.1 c;subst c;rw[wcp]at k;obtain⟨f,i,d⟩:=wcs.1 k;rw[i]at h;dsimp only at h;obtain⟨z,hz,rfl⟩:=wcs.1 h;obtain⟨_,_,rfl⟩:=z83 hz;intro e c;rcases wd9 c with b|b
  ·exact .inl b
  ·exact .inr (.inr ⟨f,wck i,d,by rw[b,<- d]⟩)
theorem zv0{i left:Int}:∀{ts:List Int}{m k:PM},ts.Nodup->RsT i left ts m->zjp i left ts m=some k->RsB (i+1) k
 |[],m,k,_,h,e=>by
  cases e;exact λe g=>⟨(h e g).1,λx d=>by have:=(h e g).2.1 x d;omega⟩
 |t::ts,m,k,j,h,e=>by
  rw[wfl]at j;unfold zjp at e;obtain⟨A,r,s⟩:=wdm.1 e;refine zv0 j.2 (λe g=>?_) s;rcases jbl r e g with l|rfl|⟨q,l,u,rfl⟩
  ·obtain⟨n,o,p⟩:=h e l;exact⟨n,o,λ⟨y,f,c⟩=>p ⟨y,we8 _ f,c⟩⟩
  ·refine⟨by simp[jy],λx d=>by rw[wci.1 d];omega,λ⟨y,f,c⟩=>?_⟩;have:t=y:=congrArg Prod.snd c;subst this;exact absurd f j.1
  ·obtain⟨n,o,p⟩:=h q l;have z:=p ⟨t,wfs,u⟩;refine⟨?_,λx d=>?_,λ⟨y,f,c⟩=>?_⟩
   ·unfold jy;rw[wer];exact⟨n,by simp,λa v b w=>by rw[wci.1 w];exact z a v⟩
   ·rcases wco.1 d with d|d
    ·exact o x d
    ·rw[wci.1 d];omega
   ·have:t=y:=congrArg Prod.snd c;subst this;exact absurd f j.1
theorem zxn{pr:Nat->List Int}(d:∀i,(pr i).Nodup):∀{ls:List Int}{i:Nat}{m c:PM},RsB (i:Int) m->zmh pr i ls m=some c->RsM c
 |[],i,m,c,h,e=>by cases e;exact λe b=>(h e b).1
 |a::l,i,m,c,h,e=>by
  unfold zmh at e;obtain⟨k,f,g⟩:=wdm.1 e;refine zxn d (i:=i+1) ?_ g;have:=zv0 (d i) (λe b=>⟨(h e b).1,λx j=>by have:=(h e b).2 x j;omega,λ_=>(h e b).2⟩) f;simpa using this
theorem z7h{g:jb}{b rows:List (List Int)}{m:PM}{n:Nat}(f:z6q g b rows m)(a:∀l∈rows,RN n l):RsM m:=zxn (λi=>by
  simp only[List.getD];cases d:rows[i]? with
  |none=>simp
  |some l=>exact(a l (wck d)).r.imp λh=>by omega) (λe c=>by cases c) f.go
def Two(g:jb)(em:List Bool)(al B:List (List Int))(c:Int×Int):Prop:=∃(k b:Nat)(p a:jh),k≠b/\g.2.2.1[k]?=some p/\g.2.2.1[b]?=some a/\c.1=p.1/\c.1=a.1/\inT em al (B.getD p.1.toNat []) c.2 p.2.1/\inT em al (B.getD a.1.toNat []) c.2 a.2.1
theorem two_of{g:jb}{em:List Bool}{al B:List (List Int)}{m:PM}(h:z67 g em al B m)(w:RsM m){e:(Int×Int)×List Int}(q:e∈m)(d:2<=e.2.length):Two g em al B e.1:=by
 obtain⟨i,j,l,c⟩:∃i j l,e.2=i::j::l:=by
  match r:e.2 with
  |[]=>rw[r]at d;simp at d
  |[a]=>rw[r]at d;simp at d
  |a::b::l=>exact⟨a,b,l,rfl⟩
 obtain⟨k,p,rfl,t,u,_,_,v⟩:=h.pm.says e q i (by simp[c]);obtain⟨s,x,rfl,f,n,_,_,o⟩:=h.pm.says e q j (by simp[c]);have:=w e q;rw[c]at this;have:(k:Int)<s:=(wd1.1 this).1 _ (by simp);exact⟨k,s,p,x,by omega,t,f,u,n,v,o⟩
theorem jb3{g:jb}{em:List Bool}{al B:List (List Int)}{m:PM}(h:z67 g em al B m){c:Int×Int}(w:Two g em al B c):∃e∈m,e.1=c/\2<=e.2.length:=by
 obtain⟨k,A,p,C,z,u,f,o,i,v,j⟩:=w;obtain⟨x,r,s,d⟩:=h.has k p u _ v;obtain⟨y,D,E,t⟩:=h.has A C f _ j;have n:=zj1 h.pm.nd r D (by rw[s,E,<- o,<- i]);subst n;refine⟨x,r,by rw[s,<- o],?_⟩
 match q:x.2 with
 |[]=>rw[q]at d;cases d
 |[a]=>
  rw[q]at d t;simp at d t;omega
 |a::b::l=>simp
def CdS(g:jb)(em:List Bool)(al B:List (List Int))(r:Int×Int×Int):Prop:=(r=(0,0,0)/\∀c,¬Two g em al B c)\/∃c,r=(15,c.1,c.2)/\Two g em al B c/\∀a,Two g em al B a->¬ltP a c
theorem CdS.one{g:jb}{em:List Bool}{al B:List (List Int)}{r s:Int×Int×Int}(h:CdS g em al B r)(k:CdS g em al B s):r=s:=by
 rcases h with⟨rfl,h⟩|⟨c,rfl,b,e⟩
 ·rcases k with⟨rfl,_⟩|⟨d,_,a,_⟩
  ·rfl
  ·exact absurd a (h d)
 ·rcases k with⟨_,k⟩|⟨d,rfl,a,f⟩
  ·exact absurd b (k c)
  ·rw[jea (f c b) (e d a)]
theorem CdS.nc{g:jb}{em:List Bool}{al B:List (List Int)}{r:Int×Int×Int}(h:CdS g em al B r)(h0:r.1=0):NC g em al B:=by
 rcases h with⟨_,h⟩|⟨c,rfl,_⟩
 ·intro k d p l j a e t f i;by_cases b:k=d
  ·exact b
  ·exact absurd ⟨k,d,p,l,b,j,a,rfl,e,f,i⟩ (h (p.1,t))
 ·cases h0
theorem z2b{g:jb}{em:List Bool}{al B:List (List Int)}{m:PM}(h:z67 g em al B m)(p:RsM m):∃r,zjs m=some r/\CdS g em al B r.1:=by
 obtain⟨r,a,_⟩:=jbo h;refine⟨r,a,?_⟩;unfold zjs at a;cases d:(Jd m).2 with
 |false=>
  rw[d]at a;cases a;refine .inl ⟨rfl,λc j=>?_⟩;obtain⟨e,i,v,w⟩:=jb3 h j;rcases zfj m with⟨_,b⟩|⟨b,_⟩
  ·have:=b e i;omega
  ·rw[d]at b;cases b
 |true=>
  rw[d]at a;obtain⟨z,_,rfl⟩:=wcs.1 a;rcases zfj m with⟨b,_⟩|⟨_,⟨e,k,l,n⟩,o⟩
  ·rw[b]at d;cases d
  ·refine .inr ⟨_,rfl,?_,λu f=>?_⟩
   ·rw[<- l];exact two_of h p k n
   ·obtain⟨y,q,s,t⟩:=jb3 h f;rw[<- s];exact o y q t
theorem z72{g:jb}{em re:List Bool}{al B:List (List Int)}(j:Y1 g)(i:GR g)(b:GOk g)(k:Kn g em re al B):Tn (λn=>Jp n g) (λr=>∃d,r.1=(d.1,d.2.1,d.2.2,())/\CdS g em al B d):=by
 obtain⟨rows,m,e,a,c⟩:=z6j j b k;obtain⟨r,f,h⟩:=z2b c (z7h e a);exact(jnw i e c.pm.nd f).mono λx l=>⟨r.1,by rw[l],h⟩
structure KnX(g:jb)(em re:List Bool)(al B:List (List Int)):Prop where
 kn:Kn g em re al B
 emt:∀p∈g.2.2.1,mkT false em p
 ems:MSn false g em
 res:∀i,re[i]?=some true->ReG g i
 als:FRn g em al
 Bs:FoR g em re al (g.1.length+1) B
theorem emC_mk{r:List Bool}{p:jh}(h:mkT false r p):emC r p:=λa=>h λx c=>⟨λ_=>(a x c).2,λb=>by rw[(a x c).1]at b;cases b⟩
theorem KnX_of(g:jb)(o:Y1 g)(n:GR g)(a:GOk g):∃d re e B,KnX g d re e B:=by
 obtain⟨d,w,b,f,q⟩:=(jiy g o n a).val;obtain⟨re,i,j,m,l,y⟩:=(ja5 g o n a).val;obtain⟨k,z,e,rfl,x,c,s⟩:=(jn7 g o n a d w b).val;obtain⟨B,A,v,h,u,t⟩:=(jdy g o n a d re e w b x c.r (z39 g a d e x z) i j).val;exact⟨d,re,e,B,⟨w,b,λp C=>emC_mk (f p C),i,j,m,l,z,x,c.r,s,A,v,h.r,u,t⟩,f,q,y,c,h⟩
def fsF(kd:Int):List Bool->Nat->jd
 |[],_=>(0,0,0,())
 |b::l,i=>match b with
  |true=>fsF kd l (i+1)
  |false=>(kd,i,0,())
theorem je3{g:jb}(h:GOk g)(y:jg×List (List Int)×Unit){l:List Bool}(q:l.length=g.2.1.length)(o:Tn (λj=>yy j g) (λr=>r=l)):Tn (λj=>Yn j (some (g,y))) (λd=>d=fsF 13 l 0):=by
 have u:=h.r;unfold Yn;refine wad ?_;refine Waa o waa λr n=>?_;subst n;refine Tt.J (λd=>d=fsF 13 r 0) (λv b=>?_) (λs i=>Tt.pure i);refine Tt.loop (λm s=>∃k:Nat,k<=r.length/\m=r.length-k/\s=(13,0,(r.length:Int),(k:Int),r,(0,0,0,()))/\fsF 13 r 0=fsF 13 (r.drop k) k) r.length waa ⟨0,by omega,by omega,rfl,rfl⟩ λm s⟨k,p,t,i,e⟩ w f=>?_;subst i;dsimp only;refine wab (λc=>?_) (λc=>b.fst _ ?_)
 ·have c:=wcd c;have a:k<r.length:=by omega
  rw[wc0 a]at e;refine wac _ (atN a) (wab (λcb=>b.fst _ ?_) λcb=>wad ?_)
  ·have cb:r[k]=false:=by simpa using cb
   rw[e,cb];rfl
  ·have cb:r[k]=true:=by simpa using cb
   rw[wI (by omega) (by omega)];exact f (r.length-(k+1)) _ (by omega) ⟨k+1,by omega,rfl,by simp,by rw[e,cb];rfl⟩
 ·have c:=wce c;have:k=r.length:=by omega
  subst this;rw[e,wd3];rfl
theorem jd6{g:jb}(h:GOk g)(y:jg×List (List Int)×Unit){l:List Bool}(q:l.length=g.2.1.length)(o:Tn (λj=>Vd j g) (λr=>r=l)):Tn (λj=>Ym j (some (g,y))) (λd=>d=fsF 14 l 0):=by
 have u:=h.r;unfold Ym;refine wad ?_;refine Waa o waa λr n=>?_;subst n;refine Tt.J (λd=>d=fsF 14 r 0) (λv b=>?_) (λs i=>Tt.pure i);refine Tt.loop (λm s=>∃k:Nat,k<=r.length/\m=r.length-k/\s=(14,0,(r.length:Int),(k:Int),r,(0,0,0,()))/\fsF 14 r 0=fsF 14 (r.drop k) k) r.length waa ⟨0,by omega,by omega,rfl,rfl⟩ λm s⟨k,p,t,i,e⟩ w f=>?_;subst i;dsimp only;refine wab (λc=>?_) (λc=>b.fst _ ?_)
 ·have c:=wcd c;have a:k<r.length:=by omega
  rw[wc0 a]at e;refine wac _ (atN a) (wab (λcb=>b.fst _ ?_) λcb=>wad ?_)
  ·have cb:r[k]=false:=by simpa using cb
   rw[e,cb];rfl
  ·have cb:r[k]=true:=by simpa using cb
   rw[wI (by omega) (by omega)];exact f (r.length-(k+1)) _ (by omega) ⟨k+1,by omega,rfl,by simp,by rw[e,cb];rfl⟩
 ·have c:=wce c;have:k=r.length:=by omega
  subst this;rw[e,wd3];rfl
theorem jfo{g:jb}{em re:List Bool}{al B:List (List Int)}(c:Y1 g)(b:GR g)(a:GOk g)(e:Kn g em re al B)(y:jg×List (List Int)×Unit):Tn (λh=>Yr h (some (g,y))) (λr=>∃d,r=(d.1,d.2.1,d.2.2,())/\CdS g em al B d):=by
 unfold Yr;refine wad ?_;refine Waa (z72 c b a e) waa λr f=>Tt.pure f
theorem setA4(a:Arr 4 Int){k:Nat}(h:k<4)(x:Int):∃b,ztv a (k:Int) x=some b:=by
 have c:=a.2;unfold ztv;simp[c,h]
theorem at4(a:Arr 4 Int){k:Nat}(h:k<4):∃x,atL a.l (k:Int)=some x:=⟨_,atN (by have:=a.2;omega)⟩
theorem z5y(l:List (Arr 4 Int))(t:l.length<=1000000):Tn (λp=>Ju p l) (λ_=>True):=by
 unfold Ju;refine Tt.loop (λm s=>∃(k:Nat)(a b:Arr 4 Int),k<=l.length/\m=l.length-k/\s=(l,(l.length:Int),(k:Int),a,b)) l.length waa ⟨0,_,_,by omega,by omega,rfl⟩ λm s⟨k,a,b,r,u,h⟩ w f=>?_;subst h;dsimp only;refine wab (λc=>?_) (λc=>Tt.pure trivial);have c:=wcd c;have e:k<l.length:=by omega
 refine wac _ (atN e) ?_;refine Tt.loop (λm s=>∃(i:Nat)(a b:Arr 4 Int),i<=4/\m=4-i/\s=(l,(l.length:Int),(k:Int),(i:Int),a,b,l[k])) 4 waa.fst ⟨0,_,_,by omega,by omega,rfl⟩ λv s⟨i,a,b,q,j,h⟩ A g=>?_;subst h;dsimp only;refine wab (λc=>?_) (λc=>wad ?_)
 ·have c:=wcd c;have d:i<4:=by omega
  obtain⟨x,n⟩:=at4 b d;obtain⟨y,o⟩:=at4 l[k] d;obtain⟨z,hz⟩:=setA4 b d (orI .u64 x y);refine wac _ (qv d) (wac _ n (wac _ (qv d) (wac _ o (wac _ (qv d) (wac _ hz (wad ?_))))));rw[wI (by omega) (by omega)];exact g (4-(i+1)) _ (by omega) ⟨i+1,a,z,by omega,rfl,by simp⟩
 ·rw[wI (by omega) (by omega)];exact Tt.fst (f (l.length-(k+1)) _ (by omega) ⟨k+1,a,b,by omega,rfl,by simp⟩)
theorem zj0(a b:Arr 4 Int):Tn (λc=>Ju c [a,b]) (λ_=>True):=z5y _ (by simp)
theorem jni(a b:jm):Tn (λe=>Ys e a b) (λ_=>True):=by
 unfold Ys;refine Tt.J (λ_=>True) (λd c=>?_) (λs _=>?_)
 ·exact wad (wab (λ_=>c _ trivial) λ_=>c _ trivial)
 ·refine wab (λ_=>Tt.pure trivial) λ_=>?_;refine Tt.J (λ_=>True) (λd c=>?_) (λs _=>?_)
  ·exact wab (λ_=>Waa (zj0 _ _) waa λ_ _=>c _ trivial) λ_=>Waa (zj0 _ _) waa λ_ _=>c _ trivial
  ·refine Tt.J (λ_=>True) (λd c=>?_) (λs _=>Tt.pure trivial);exact wab (λ_=>Waa (zj0 _ _) waa λ_ _=>c _ trivial) λ_=>c _ trivial
theorem z33(a b:jm):Tn (λd=>J7 d a b) (λ_=>True):=by
 unfold J7;refine wab (λ_=>Tt.pure trivial) λ_=>wab (λ_=>Tt.pure trivial) λ_=>?_;refine Tt.J (λ_=>True) (λe c=>?_) (λs _=>Tt.pure trivial);exact wab (λ_=>Waa (zj0 _ _) waa λ_ _=>Waa (zj0 _ _) waa λ_ _=>c _ trivial) λ_=>Waa (zj0 _ _) waa λ_ _=>Waa (zj0 _ _) waa λ_ _=>c _ trivial
theorem jew(x:jf)(l:List jm)(n:Nat)(e:arK x.1=some n)(w:n<=l.length):Tn (λr=>J2 r x l) (λ_=>True):=by
 have g:0<n->∃a,atL l 0=some a:=λh=>⟨_,atN (k:=0) (by omega)⟩
 have m:1<n->∃a,atL l 1=some a:=λh=>⟨_,atN (k:=1) (by omega)⟩
 unfold J2;refine wab (λ_=>wab (λ_=>Tt.pure trivial) λ_=>Tt.pure trivial) λj=>?_;have j:=wce j;refine wab (λc=>?_) λt=>wab (λc=>?_) λu=>wab (λc=>?_) λv=>?_
 ·have c:=wcd c;rw[c]at e;cases e;obtain⟨a,f⟩:=g (by omega);obtain⟨b,i⟩:=m (by omega);exact wac _ f (wac _ i (Waa (jni _ _) waa λ_ _=>Tt.pure trivial))
 ·have c:=wcd c;rw[c]at e;cases e;obtain⟨a,f⟩:=g (by omega);obtain⟨b,i⟩:=m (by omega);exact wac _ f (wac _ i (Waa (z33 _ _) waa λ_ _=>Tt.pure trivial))
 ·have c:=wcd c;rw[c]at e;cases e;obtain⟨a,f⟩:=g (by omega);exact wac _ f (Waa (z33 _ _) waa λ_ _=>Tt.pure trivial)
 ·refine Tt.J (λs=>s.1=l/\(s.2.1=true->0<n)) (λo d=>?_) (λs⟨p,q⟩=>?_)
  ·refine wad (wab (λc=>d _ ⟨rfl,λ_=>?_⟩) λc=>wad (d _ ⟨rfl,λh=>?_⟩))
   ·have c:=wcd c;rw[c]at e;cases e;omega
   ·have c:=wcd h;rw[c]at e;cases e;omega
  ·refine wab (λc=>?_) λ_=>Tt.pure trivial;obtain⟨a,f⟩:=g (q c);rw[p];refine wac _ f ?_;refine Tt.J (λ_=>True) (λo d=>wab (λ_=>d _ trivial) λ_=>d _ trivial) (λs _=>?_);refine Tt.J (λ_=>True) (λo d=>?_) (λs _=>Tt.pure trivial);exact wab (λ_=>Waa (z33 _ _) waa λ_ _=>d _ trivial) λ_=>d _ trivial
theorem zpr{l:List jf}{d e:Nat}{k:Nat}(h:zf5 l d=some e)(g:k<l.length){j:Nat}(f:zf5 (l.take k) d=some j):∃n,arK (l[k]).1=some n/\n<=j/\zf5 (l.take (k+1)) d=some (j-n+1):=by
 have i:l=l.take (k+1)++l.drop (k+1):=(wdq _ _).symm;have a:zf5 (l.take (k+1)) d=match arK (l[k]).1 with|none=>none|some n=>if n<=j then some (j-n+1)else none:=by
  rw[wcn g,zfs,f];simp only[wdr,zf5];rfl
 rw[i,zfs]at h;cases b:arK (l[k]).1 with
 |none=>rw[b]at a;rw[a]at h;cases h
 |some n=>
  rw[b]at a;dsimp only at a;by_cases c:n<=j
  ·rw[if_pos c]at a;exact⟨n,rfl,c,a⟩
  ·rw[if_neg c]at a;rw[a]at h;cases h
theorem z90(l:List jf)(H:l.length<=1000000):Tn (λL=>Vr L l) (λ_=>True):=by
 unfold Vr;refine Tt.J (λ_=>True) (λP q=>?_) (λs _=>Tt.pure trivial);refine Waa (jgi l H) waa λe G=>?_;refine wab (λ_=>q _ trivial) λc=>?_;have c:=wce c;obtain⟨o,C⟩:=G (by omega);refine Tt.loop (λm s=>∃(k:Nat)(f:jm)(st:List jm),k<=l.length/\m=l.length-k/\s=(l,(l.length:Int),(k:Int),f,st)/\zf5 (l.take k) 0=some st.length/\st.length<=k) l.length waa ⟨0,_,[],by omega,by omega,rfl,rfl,by simp⟩ λm s⟨k,f,st,M,N,i,x,K⟩ Q A=>?_;subst i;dsimp only;refine wab (λc=>?_) (λc=>?_)
 ·have c:=wcd c;have p:k<l.length:=by omega
  obtain⟨n,a,I,y⟩:=zpr o p x;refine wac _ (atN p) ?_;refine Tt.J (λs=>s=((n:Int),l,(l.length:Int),(k:Int),f,st,l[k])) (λR g=>?_) (λs i=>?_)
  ·refine Tt.J (λs=>∃b,s=(0,l,(l.length:Int),(k:Int),(l[k]).1,b,f,st,l[k])/\(b=true↔((l[k]).1=3\/(l[k]).1=4))) (λS t=>?_) (λs⟨b,i,j⟩=>?_)
   ·refine wad (wab (λc=>t _ ⟨_,rfl,?_⟩) (λc=>wad (t _ ⟨_,rfl,?_⟩)))
    ·have:=wcd c;simp[this]
    ·have:=wce c;simp[this]
   ·subst i;dsimp only;refine wab (λc=>g _ ?_) (λc=>?_)
    ·have:=j.1 c;rw[arK,if_pos this]at a;cases a;rfl
    ·have w:¬((l[k]).1=3\/(l[k]).1=4):=λh=>by rw[j.2 h]at c;cases c
     refine Tt.J (λs=>∃b,s=(0,l,(l.length:Int),(k:Int),b,f,st,l[k])/\(b=true↔((l[k]).1=5\/(l[k]).1=6\/(l[k]).1=7))) (λO d=>?_) (λs⟨b,i,j⟩=>?_)
     ·refine wad (wab (λc=>d _ ⟨_,rfl,?_⟩) (λc=>wad (wab (λv=>d _ ⟨_,rfl,?_⟩) (λv=>wad (d _ ⟨_,rfl,?_⟩)))))
      ·have:=wcd c;simp[this]
      ·have:=wcd v;simp[this]
      ·have u:=wce c;have E:=wce v;simp[u,E]
     ·subst i;dsimp only;rw[arK,if_neg w]at a;refine wab (λc=>g _ ?_) (λc=>g _ ?_)
      ·rw[if_pos (j.1 c)]at a;cases a;rfl
      ·rw[if_neg (λh=>by rw[j.2 h]at c;cases c)]at a;split at a<;>cases a;rfl
  ·subst i;dsimp only;refine wad ?_;rw[wI (by omega) (by omega)];have D:(st.length:Int)-(n:Int)=((st.length-n:Nat):Int):=by omega
   rw[D];refine wac (st.length-n) (by unfold zxs;simp) ?_;have F:(st.drop (st.length-n)).length=n:=by rw[wdw];omega
   refine wac _ (yf (by simp;omega) (by omega)) ?_;rw[wei];refine Waa (jew _ _ n a (by omega)) waa.fst λr _=>?_;refine wac (st.take (st.length-n)) (by unfold Zb;simp) (wac _ (yf (by simp;omega) (by omega)) (wad ?_));rw[wI (by omega) (by omega)];have B:(st.take (st.length-n)++[r]).length=st.length-n+1:=by rw[wcu,wdl];simp
   exact A (l.length-(k+1)) _ (by omega) ⟨k+1,f,_,by omega,rfl,rfl,by rw[B];exact y,by rw[B];omega⟩
 ·have c:=wce c;have z:k=l.length:=by omega
  rw[z,wc2,o]at x;have u:0<st.length:=by have:=wdz x;omega
  exact wac _ (qv u) (wac _ (atN u) (q.fst _ trivial))
theorem z38(l:List jf)(a:l.length<=1000000):Tn (λb=>vy b l) (λ_=>True):=by
 unfold vy;refine Tt.bind (R:=λ_=>True) ?_ λ_ _=>Tt.pure trivial;unfold Vz;exact Waa (z90 l a) waa λr _=>wab (λ_=>Tt.pure trivial) λ_=>Tt.pure trivial
theorem sm7{α:Type}{a b:List α}(h:a.length<=1000000):Go.Proofs.YtigdmmgklieofaaGreat.small7 a b=some b:=by
 unfold Go.Proofs.YtigdmmgklieofaaGreat.small7;rw[if_pos (by omega)]
section
variable{α:Type}{s:List α}{b:α}
theorem popZ(h:s.length<=1000000):T.w64 (((s++[b]).length:Int)-1)=(s.length:Int):=by
 rw[wcu,wc5,wI (by omega) (by omega)];omega
theorem jie(h:s.length<=1000000):jw (s++[b]).length (T.w64 (((s++[b]).length:Int)-1))=some (s.length:Int):=by
 rw[popZ h];exact qv (by simp)
theorem jhs:atL (s++[b]) (s.length:Int)=some b:=Jo (by omega) (by simp)
theorem truncN{k:Nat}(h:k<=s.length):Zb s (k:Int)=some (s.take k):=by unfold Zb;simp[h]
theorem jkg(h:s.length<=1000000):Zb (s++[b]) (T.w64 (((s++[b]).length:Int)-1))=some s:=by
 rw[popZ h,truncN (by simp)];simp
theorem zvq{l:List α}(h:0<l.length):∃s b,l=s++[b]:=by
 rcases List.eq_nil_or_concat l with rfl|⟨s,b,rfl⟩
 ·simp at h
 ·exact⟨s,b,by simp⟩
end
abbrev OvS:=(List jf)×Int×Int×Bool×Int×qy×(List (Arr 4 Int))×(List (List Int))×(List Int)×(List Int)×(List qy)
theorem mid_eq(a b:Nat)(h:a+b<=2000000):zre .u64 (wr .u64 (T.w64 ((a:Int)+(b:Int)))) 1=some (((a+b) / 2:Nat):Int):=by
 rw[wI (by omega) (by omega)];unfold wr zre;rw[zcv (by omega) (by omega),if_neg (by omega)];have:min (1:Int).toNat IntKind.u64.bits=1:=by decide
 rw[this];congr 1;rw[Int.fdiv_eq_ediv_of_nonneg _ (by omega)];omega
structure ziq(N M:Nat)(n:jk):Prop where
 s:n.1.length<=N
 o:n.2.1.length<=M
 l:n.2.2.1.length<=M
 f:n.2.2.2.1.length<=M
 fr:∀x∈n.2.2.2.1,x.length<=512
 fi:n.2.2.2.2.1.length<=M
theorem ris_of{l:List Int}(h:∀(i:Nat)(h:i+1<l.length),l[i]<l[i+1]):jy l:=by
 have b:∀(d i:Nat)(a:i+d+1<l.length),l[i]<l[i+d+1]:=by
  intro d;induction d with
  |zero=>exact λi a=>h i a
  |succ d e=>exact λi a=>Int.lt_trans (e i (by omega)) (h (i+d+1) (by omega))
 refine wff.2 λi j f g c=>?_;have:=b (j-i-1) i (by omega);simpa [show i+(j-i-1)+1=j by omega]using this
theorem jov{N:Nat}{l:List Int}(c:jy l)(h:(a:0<l.length)->0<=l[0]/\l[l.length-1]<(N:Int)):RN N l:=by
 refine⟨c,λx d=>?_⟩;obtain⟨i,b,rfl⟩:=List.mem_iff_getElem.1 d;obtain⟨j,k⟩:=h (by omega);have a:=wff.1 c;have f:l[0]<=l[i]:=by
  by_cases e:i=0
  ·subst e;omega
  ·have:=a 0 i (by omega) b (by omega);omega
 have g:l[i]<=l[l.length-1]:=by
  by_cases e:i=l.length-1
  ·subst e;omega
  ·have:=a i (l.length-1) b (by omega) (by omega);omega
 omega
structure NetOk(n:jk):Prop where
 o:n.2.1.length=n.1.length
 l:n.2.2.1.length=n.1.length
 f:n.2.2.2.1.length=n.1.length
 fi:RN n.1.length n.2.2.2.2.1
 fo:∀x∈n.2.2.2.1,RN n.1.length x
theorem jke{b:Nat}(h:b<256):zsd .u8 (b:Int) 64=some ((b / 64:Nat):Int):=by
 unfold zsd;rw[if_neg (by decide),show((b:Int)).tdiv 64=((b / 64:Nat):Int)from(Int.ofNat_tdiv b 64).symm,Jx (by omega) (by omega)]
theorem jdp(b:Nat):zp6 .u8 (b:Int) 64=some ((b % 64:Nat):Int):=by
 unfold zp6;rw[if_neg (by decide),show((b:Int)).tmod 64=((b % 64:Nat):Int)from(Int.ofNat_tmod b 64).symm]
theorem RN.sub{N:Nat}{a b:List Int}(h:RN N b)(c:a.Sublist b):RN N a:=⟨wfe c h.r,λx d=>h.b x (c.subset d)⟩
theorem jhj(s:Arr 4 Int)(b:Nat)(a:b<256):Tn (λd=>zbz d s (b:Int)) (λ_=>True):=by
 unfold zbz;obtain⟨x,c⟩:=at4 s (k:=b / 64) (by omega);refine wac _ (jke a) (wac _ (qv (by omega)) (wac _ c (wac _ (jdp b) ?_)));exact wac _ (show z3u .u64 1 ((b % 64:Nat):Int)=some _ by unfold z3u;rw[if_neg (by omega)]) (Tt.pure trivial)
section
variable{α β:Type}{eqb:α → α → Bool}
theorem zmg:∀{m:List (α×β×Unit)}{k:α}{v:β},z7 eqb m k=none->Z3 eqb m k v=m++[(k,v,())]
 |[],_,_,_=>rfl
 |e::r,k,v,h=>by
  unfold z7 at h;unfold Z3;cases a:eqb k e.1
  ·rw[a]at h;simp only[we4,zmg h]
  ·rw[a]at h;cases h
theorem zkg{k:α}{v:β}(a:eqb k k=true):∀{m:List (α×β×Unit)},z7 eqb (Z3 eqb m k v) k=some v
 |[]=>by unfold Z3 z7;rw[a]
 |e::r=>by
  unfold Z3;cases b:eqb k e.1
  ·unfold z7;rw[b];exact zkg a
  ·unfold z7;rw[a]
theorem z10:∀{m:List (α×β×Unit)}{k:α}{v:β},z7 eqb m k=some v->∃(j:Nat)(e:α×β×Unit),m[j]?=some e/\e.2.1=v
 |[],_,_,h=>by cases h
 |e::r,k,v,h=>by
  unfold z7 at h;cases a:eqb k e.1
  ·rw[a]at h;obtain⟨j,b,c,d⟩:=z10 h;exact⟨j+1,b,by simpa using c,d⟩
  ·rw[a]at h;cases h;exact⟨0,e,rfl,rfl⟩
end
theorem jdd(k:vn):Qm k k=true:=by simp[Qm,zvf]
theorem zuq{n:Nat}{α:Type}(a:Arr n α){k:Nat}(h:k<n)(x:α):∃b,ztv a (k:Int) x=some b/\b.l=a.l.set k x:=by
 refine⟨⟨a.l.set k x,by rw[web,a.h]⟩,?_,rfl⟩;unfold ztv;simp[h]
structure ClsN(a:Arr 256 Int)(n:Nat):Prop where
 h1:1<=n
 h2:n<=256
 lt:∀(b:Nat)(x:Int),a.l[b]?=some x->∃j:Nat,j<n/\x=j
 on:∀j:Nat,j<n->∃b:Nat,a.l[b]?=some (j:Int)
theorem ClsN.zero:ClsN ⟨List.replicate 256 0,wch⟩ 1:=
 ⟨by omega,by omega,λb x h=>⟨0,by omega,by rw[wdf]at h;split at h<;>cases h;rfl⟩,λj a=>⟨0,by show(List.replicate 256 (0:Int))[0]?=some _;rw[wdf,if_pos (by decide)];congr 1;omega⟩⟩
structure SplI(k:Nat)(a:Arr 256 Int)(m:List (vn×Int×Unit)):Prop where
 v:∀(j:Nat)(e:vn×Int×Unit),m[j]?=some e->e.2.1=j
 l:m.length<=k
 p:0<k->0<m.length
 lt:∀(b:Nat)(x:Int),b<k->a.l[b]?=some x->∃j:Nat,j<m.length/\x=j
 on:∀j:Nat,j<m.length->∃b:Nat,b<k/\a.l[b]?=some (j:Int)
theorem SplI.step{k:Nat}{a p:Arr 256 Int}{m n:List (vn×Int×Unit)}(h:SplI k a m)(D:k<256){j:Nat}(u:p.l=a.l.set k (j:Int))(hm:n=m/\j<m.length\/∃x,n=m++[(x,(m.length:Int),())]/\j=m.length):SplI (k+1) p n:=by
 have E:=a.h;have w:p.l[k]?=some (j:Int):=by rw[u,wel (by omega)]
 have y:∀b,b≠k->p.l[b]?=a.l[b]?:=λb A=>by rw[u,wec (by omega)]
 have C:j<n.length/\m.length<=n.length/\n.length<=m.length+1:=by
  rcases hm with⟨e,c⟩|⟨x,e,c⟩
  ·subst e;omega
  ·subst e;simp;omega
 refine⟨λi e f=>?_,by have:=h.l;omega,λ_=>by omega,λb x A r=>?_,λi q=>?_⟩
 ·rcases hm with⟨g,c⟩|⟨x,g,c⟩
  ·subst g;exact h.v i e f
  ·subst g;by_cases q:i<m.length
   ·rw[wcr q]at f;exact h.v i e f
   ·rw[wct (by omega)]at f;have:i-m.length=0:=by
     cases B:i-m.length with
     |zero=>rfl
     |succ d=>rw[B]at f;simp at f
    rw[this]at f;simp only[we2,wdn]at f;subst f;simp only;omega
 ·by_cases o:b=k
  ·subst o;rw[w]at r;cases r;exact⟨j,by omega,rfl⟩
  ·rw[y b o]at r;obtain⟨i,z,c⟩:=h.lt b x (by omega) r;exact⟨i,by omega,c⟩
 ·by_cases s:i=j
  ·subst s;exact⟨k,by omega,w⟩
  ·have t:i<m.length:=by
    rcases hm with⟨g,c⟩|⟨x,g,c⟩
    ·subst g;exact q
    ·subst g;simp at q;omega
   obtain⟨b,z,c⟩:=h.on i t;exact⟨b,by omega,by rw[y b (by omega)];exact c⟩
theorem jd7(a:Arr 256 Int)(s:Arr 4 Int):Tn (λR=>Q7 R a s) (λr=>∃n,ClsN r n):=by
 unfold Q7;refine Tt.loop (λj t=>∃(k:Nat)(g:Arr 256 Int)(m:List (vn×Int×Unit)),k<=256/\j=256-k/\t=((k:Int),g,s,⟨List.replicate 256 0,wch⟩,m)/\SplI k g m) 256 waa ⟨0,_,_,by omega,by omega,rfl,⟨λj e h=>by simp at h,by simp,by omega,λb x h=>by omega,λj h=>by simp at h⟩⟩ λj t⟨k,g,m,S,G,C,o⟩ T B=>?_;subst C;dsimp only;refine wab (λc=>?_) (λc=>Tt.pure ?_)
 ·have c:=wcd c;have d:k<256:=by omega
  have O:=g.h;have E:wr .u8 (k:Int)=(k:Int):=Jx (by omega) (by omega);refine wac _ (qv d) (wac _ (atN (by omega)) ?_);rw[E];refine Waa (jhj s k d) waa.fst λr _=>?_;generalize H:((g.l[k]'(by omega),r,()):vn)=f;have Q:=o.l;refine Tt.J (λt=>∃(q:List (vn×Int×Unit))(j:Nat),t=((k:Int),(k:Int),g,s,⟨List.replicate 256 0,wch⟩,q,f)/\z7 Qm q f=some (j:Int)/\(q=m/\j<m.length\/∃x,q=m++[(x,(m.length:Int),())]/\j=m.length)) (λU w=>?_) λt⟨q,j,C,u,P⟩=>?_
  ·refine wad ?_;cases u:z7 Qm m f with
   |none=>
    refine wah rfl (wad (wad (w _ ⟨_,m.length,rfl,?_,Or.inr ⟨f,?_,rfl⟩⟩)))
    ·have D:wr .u8 (m.length:Int)=(m.length:Int):=Jx (by omega) (by omega);rw[D];exact zkg (jdd f)
    ·have D:wr .u8 (m.length:Int)=(m.length:Int):=Jx (by omega) (by omega);rw[D];exact zmg u
   |some v=>
    obtain⟨i,e,z,y⟩:=z10 u;have F:=o.v i e z;have N:i<m.length:=by
     have:=wcg.1 z;exact this.1
    refine wae rfl (w _ ⟨m,i,rfl,?_,Or.inl ⟨rfl,N⟩⟩);rw[u,<- y,F]
  ·subst C;dsimp only;rw[u];obtain⟨K,L,M⟩:=zuq g d (j:Int);refine wad (wac _ (qv d) (wac _ L (wad ?_)));rw[wI (by omega) (by omega)];exact B (256-(k+1)) _ (by omega) ⟨k+1,K,q,by omega,rfl,rfl,o.step d M P⟩
 ·have c:=wce c;have A:k=256:=by omega
  subst A;refine⟨m.length,o.p (by omega),o.l,λb x I=>o.lt b x ?_ I,λj G=>?_⟩
  ·have:=wcg.1 I;have y:=g.h;have F:=this.1;omega
  ·obtain⟨b,z,y⟩:=o.on j G;exact⟨b,y⟩
theorem z2h(a:Arr 256 Int){n:Nat}(h:ClsN a n):Tn (λz=>Va z a) (λr=>r=(n:Int)):=by
 have v:=a.h;have D:=h.h2;unfold Va;refine Tt.loop (λj t=>∃(k w:Nat),k<=256/\j=256-k/\t=((w:Int),a,(k:Int))/\w<=n/\∀(b:Nat)(x:Int),b<k->a.l[b]?=some x->x<(w:Int)) 256 waa ⟨0,0,by omega,by omega,rfl,by omega,λb x h=>by omega⟩ λj t⟨k,w,C,B,y,E,o⟩ F g=>?_;subst y;dsimp only;refine wab (λc=>?_) (λc=>Tt.pure ?_)
 ·have c:=wcd c;have f:k<256:=by omega
  refine wac _ (atN (by omega)) ?_;obtain⟨i,s,u⟩:=h.lt k (a.l[k]'(by omega)) (by simp[v,f]);have p:wr .i64 (a.l[k]'(by omega))=(i:Int):=by rw[u];exact Z8 (by omega) (by omega)
  have q:max (w:Int) (T.w64 (wr .i64 (a.l[k]'(by omega))+1))=((max w (i+1):Nat):Int):=by
   rw[p,wI (by omega) (by omega)];omega
  rw[q];refine wad (wad ?_);rw[wI (by omega) (by omega)];refine g (256-(k+1)) _ (by omega) ⟨k+1,_,by omega,rfl,rfl,by omega,λb x d m=>?_⟩;by_cases e:b=k
  ·subst e;rw[wcf (by omega)]at m;have:=wdz m;omega
  ·have:=o b x (by omega) m;omega
 ·have c:=wce c;have s:=h.h1;obtain⟨b,d⟩:=h.on (n-1) (by omega);have A:=(wcg.1 d).1;have:=o b _ (by omega) d;omega
theorem je2(a:Arr 256 Int){n:Nat}(h:ClsN a n)(c:Nat)(E:c<n):Tn (λH=>Qg H a (c:Int)) (λr=>∃b:Nat,b<256/\atL r 0=some (b:Int)):=by
 have F:=a.h;have L:=h.h2;unfold Qg;refine Tt.loop (λj t=>∃(k:Nat)(out:List Int),k<=256/\j=256-k/\t=((c:Int),(k:Int),a,out)/\out.length<=k/\(∀x∈out,∃b:Nat,b<256/\x=(b:Int))/\((∃b:Nat,b<k/\a.l[b]?=some (c:Int))->0<out.length)) 256 waa ⟨0,_,by omega,by omega,rfl,by simp,by simp,λ⟨b,h,_⟩=>by omega⟩ λj t⟨k,out,K,I,w,M,y,B⟩ N v=>?_;subst w;dsimp only;refine wab (λm=>?_) (λm=>Tt.pure ?_)
 ·have m:=wcd m;have g:k<256:=by omega
  refine Tt.J (λt=>∃d,t=((c:Int),(k:Int),a,d)/\d.length<=k+1/\(∀x∈d,∃b:Nat,b<256/\x=(b:Int))/\((∃b:Nat,b<k+1/\a.l[b]?=some (c:Int))->0<d.length)) (λO p=>?_) λt⟨d,w,q,o,A⟩=>?_
  ·refine wac _ (qv g) (wac _ (atN (by omega)) ?_);obtain⟨i,q,o⟩:=h.lt k (a.l[k]'(by omega)) (by simp[F,g]);have D:wr .i64 (a.l[k]'(by omega))=(i:Int):=by rw[o];exact Z8 (by omega) (by omega)
   rw[D];refine wab (λs=>?_) λs=>p _ ⟨_,rfl,by omega,y,λ⟨b,u,f⟩=>?_⟩
   ·have G:wr .u8 (k:Int)=(k:Int):=Jx (by omega) (by omega);rw[G];refine wac _ (yf (by simp;omega) (by omega)) (p _ ⟨_,rfl,by simp;omega,λx z=>?_,λ_=>by simp⟩);rcases wco.1 z with h|h
    ·exact y x h
    ·exact⟨k,g,wci.1 h⟩
   ·refine B ⟨b,?_,f⟩;have:b≠k:=λe=>by
     subst e;rw[wcf (by omega)]at f;have:=wdz f;have s:=wce s;omega
    omega
  ·subst w;refine wad ?_;dsimp only;rw[wI (by omega) (by omega)];exact v (256-(k+1)) _ (by omega) ⟨k+1,_,by omega,rfl,rfl,q,o,A⟩
 ·have m:=wce m;obtain⟨b,u⟩:=h.on c E;have A:=(wcg.1 u).1;have:=B ⟨b,by omega,u⟩;cases out with
  |nil=>simp at this
  |cons x r=>
   obtain⟨C,q,o⟩:=y x (by simp);exact⟨C,q,by rw[o];rfl⟩
structure DSz(d:jg):Prop where
 c:∃n,ClsN d.1 n
 w:0<=d.2.1/\d.2.1<=256
 n:d.2.2.1.length<=300
 l:d.2.2.2.1.length<=300
 r:∀x∈d.2.2.1,x.length<=256
theorem DSz.zero:DSz (⟨List.replicate 256 0,wch⟩,0,[],[],()):=⟨⟨1,ClsN.zero⟩,by simp,by simp,by simp,by simp⟩
abbrev Wh:=List ((List UInt8)×Int×Unit)
abbrev DBS:=Int×Int×Int×Int×jk×(Arr 256 Int)×Int×(Arr 256 Int)×Int×(List Int)×(List (List Int))×(List Int)×(List (List Int))×(List Int)×(List (List Int))×Wh
theorem jbp(a:Arr 256 Int):Tn (λe=>Va e a) (λr=>True):=by
 have i:=a.h;unfold Va;refine Tt.loop (λj t=>∃(k:Nat)(w:Int),k<=256/\j=256-k/\t=(w,a,(k:Int))) 256 waa ⟨0,0,by omega,by omega,rfl⟩ λj t⟨k,w,g,f,d⟩ l b=>?_;subst d;dsimp only;refine wab (λc=>?_) (λc=>Tt.pure trivial);have c:=wcd c;refine wac _ (atN (by omega)) (wad (wad ?_));rw[wI (z:=(k:Int)+1) (by omega) (by omega)];exact b (256-(k+1)) _ (by omega) ⟨k+1,_,by omega,rfl,rfl⟩
theorem jby(a:Arr 256 Int):Tn (λb=>Yl b a) (λr=>True):=by
 unfold Yl;exact Waa (jd7 a _) waa λr _=>Tt.pure trivial
structure DRt(d:jg):Prop where
 n0:0<d.2.2.1.length
 lab:d.2.2.2.1.length=d.2.2.1.length
 row:∀x∈d.2.2.1,(x.length:Int)=d.2.1
 nx:∀x∈d.2.2.1,∀y∈x, -1<=y/\y<(d.2.2.1.length:Int)
theorem z2c{α:Type}{l:List α}{k:Nat}(h:k<l.length){P:α->Prop}(b:∀x∈l.take k,P x)(c:P l[k]):∀x∈l.take (k+1),P x:=λx a=>by
 rw[wcn h]at a;rcases wco.1 a with h|h
 ·exact b x h
 ·rw[wci.1 h];exact c
theorem zyf(d:jg)(v:DSz d):Tn (λH=>ze H d) (λb=>b=true->DRt d):=by
 have Q:=v.n;have R:=v.l;unfold ze;refine wad ?_;refine Tt.J (λs=>∃b,s=((d.2.2.1.length:Int),b,d)/\(b=false->0<d.2.2.1.length/\d.2.2.2.1.length=d.2.2.1.length)) (λI a=>?_) λs⟨b,e,p⟩=>?_
 ·refine wad (wab (λc=>a _ ⟨_,rfl,λh=>by cases h⟩) λc=>wab (λc=>a _ ⟨_,rfl,λh=>by cases h⟩) λu=>?_);refine Waa (jby _) waa λr _=>wab (λc=>a _ ⟨_,rfl,λh=>by cases h⟩) λL=>?_;refine Waa (jbp _) waa λr _=>a _ ⟨_,rfl,λ_=>?_⟩;have c:=wce c;have u:=wce u;omega
 subst e;dsimp only;refine wab (λ_=>Tt.pure λh=>by cases h) λc=>?_;obtain⟨D,E⟩:=p c;refine Tt.J (λb=>b=true->DRt d) (λI a=>?_) λs e=>Tt.pure e;refine Tt.loop (λm s=>∃k:Nat,k<=d.2.2.1.length/\m=d.2.2.1.length-k/\s=((d.2.2.1.length:Int),true,d.2.2.1,(d.2.2.1.length:Int),(k:Int),d)/\∀x∈d.2.2.1.take k,(x.length:Int)=d.2.1/\∀y∈x, -1<=y/\y<(d.2.2.1.length:Int)) d.2.2.1.length waa ⟨0,by omega,by omega,rfl,by simp⟩ λm s⟨k,N,F,e,t⟩ P A=>?_;subst e;dsimp only;refine wab (λc=>?_) (λc=>a.fst _ λ_=>?_)
 ·have c:=wcd c;have o:k<d.2.2.1.length:=by omega
  have G:=v.r _ (wcm o);refine wac _ (atN o) ?_;refine Tt.J (λs=>∃b,s=((d.2.2.1.length:Int),true,d.2.2.1[k],d.2.2.1,(d.2.2.1.length:Int),(k:Int),b,d)/\(b=false->((d.2.2.1[k]).length:Int)=d.2.1)) (λK f=>?_) λs⟨b,e,p⟩=>?_
  ·refine wad (wab (λc=>f _ ⟨_,rfl,λh=>by cases h⟩) λc=>?_);have c:=wce c;exact wac _ (atN (by omega)) (f _ ⟨_,rfl,λ_=>by omega⟩)
  ·subst e;dsimp only;refine wab (λ_=>a.fst _ λh=>by cases h) λc=>?_;have B:=p c;refine Tt.loop (λm s=>∃j:Nat,j<=(d.2.2.1[k]).length/\m=(d.2.2.1[k]).length-j/\s=((d.2.2.1.length:Int),true,d.2.2.1,(d.2.2.1.length:Int),(k:Int),d.2.2.1[k],((d.2.2.1[k]).length:Int),(j:Int),d)/\∀y∈(d.2.2.1[k]).take j, -1<=y/\y<(d.2.2.1.length:Int)) (d.2.2.1[k]).length waa.fst ⟨0,by omega,by omega,rfl,by simp⟩ λm s⟨j,M,F,e,i⟩ K f=>?_;subst e;dsimp only;refine wab (λc=>?_) (λc=>?_)
   ·have c:=wcd c;have g:j<(d.2.2.1[k]).length:=by omega
    refine wac _ (atN g) ?_;refine Tt.J (λs=>∃b,s=((d.2.2.1.length:Int),true,d.2.2.1,(d.2.2.1.length:Int),(k:Int),d.2.2.1[k],((d.2.2.1[k]).length:Int),(j:Int),b,d)/\(b=false -> -1<=(d.2.2.1[k])[j]/\(d.2.2.1[k])[j]<(d.2.2.1.length:Int))) (λO q=>?_) λs⟨b,e,p⟩=>?_
    ·refine wad (wab (λc=>q _ ⟨_,rfl,λh=>by cases h⟩) λc=>q _ ⟨_,rfl,λh=>?_⟩);have c:=wce c;have u:=wce h;omega
    ·subst e;dsimp only;refine wab (λ_=>a.fst.fst _ λh=>by cases h) λc=>wad ?_;rw[wI (by omega) (by omega)];exact f ((d.2.2.1[k]).length-(j+1)) _ (by omega) ⟨j+1,by omega,rfl,rfl,z2c g i (p c)⟩
   ·have c:=wce c;have w:j=(d.2.2.1[k]).length:=by omega
    rw[w,wc2]at i;refine wad ?_;rw[wI (by omega) (by omega)];exact(A (d.2.2.1.length-(k+1)) _ (by omega) ⟨k+1,by omega,rfl,rfl,z2c o t ⟨B,i⟩⟩).fst
 ·have c:=wce c;have z:k=d.2.2.1.length:=by omega
  rw[z,wc2]at t;exact⟨D,E,λx C=>(t x C).1,λx C=>(t x C).2⟩
end
end Go.Proofs.YtigdmmgklieofaaGreat.T
namespace Go.Proofs.YtigdmmgklieofaaGreat
noncomputable section
open _root_.Go.Proofs.Tryz
set_option maxRecDepth 100000
set_option maxHeartbeats 8000000
set_option linter.unusedVariables false
set_option linter.unusedSimpArgs false
open Go Go.RowKit L
def at'{α:Type}[Inhabited α](l:List α)(z:Int):α:=l.getD z.toNat default
theorem Jw{α:Type}[Inhabited α]{l:List α}{k:Nat}(h:k<l.length):at' l (k:Int)=l[k]:=by
 unfold at';simp[h]
theorem zga{α:Type}[Inhabited α]{l:List α}{z:Int}(h0:0<=z)(b:z<l.length):at' l z∈l:=by
 obtain⟨k,rfl⟩:=weh h0;have a:k<l.length:=by omega
 rw[Jw a];exact wcm a
theorem Qo{α:Type}[Inhabited α]{l:List α}{k:Nat}(h:k<l.length)(x:α):x∈l.take (k+1)↔x∈l.take k\/x=at' l (k:Int):=by
 rw[wcn h,Jw h,wco];simp
theorem jid{l:List Bool}{z:Int}{j:Nat}(h0:0<=z)(a:z<l.length):onB (l.set z.toNat true) j↔(j:Int)=z\/onB l j:=by
 rw[J5 (by omega)];constructor
 ·rintro(rfl|h)
  ·left;omega
  ·exact .inr h
 ·rintro(h|h)
  ·left;omega
  ·exact .inr h
structure SpI(n:Nat)(E:Nat->Nat->Prop)(S:Nat->Prop)(c:Nat)(l:List Bool)(w:List Int):Prop where
 h1:l.length=n
 h2:∀x∈w,0<=x/\x<n/\onB l x.toNat
 h3:∀i,onB l i->Rch E S i
 h4:∀i,S i->onB l i
 h5:∀i j,onB l i->E i j->onB l j\/(i:Int)∈w
 h6:w.length+offs l<=c
theorem SpI.done{n c:Nat}{E:Nat->Nat->Prop}{S:Nat->Prop}{l:List Bool}(h:SpI n E S c l []):l=ze8 n E S:=jde h.h1 h.h3 h.h4 λi j b a=>by
 rcases h.h5 i j b a with h|h
 ·exact h
 ·simp at h
structure SpJ(n:Nat)(E:Nat->Nat->Prop)(S:Nat->Prop)(c M:Nat)(x:Nat)(nx:List Int)(k:Nat)(l:List Bool)(w:List Int):Prop where
 j1:l.length=n
 j2:∀y∈w,0<=y/\y<n/\onB l y.toNat
 j3:∀i,onB l i->Rch E S i
 j4:∀i,S i->onB l i
 j5:∀i j,onB l i->E i j->onB l j\/(i:Int)∈w\/i=x
 j6:∀y∈nx.take k,onB l y.toNat
 j7:onB l x
 j8:w.length+offs l<=c
 j9:2*offs l+w.length<=M
section
variable{n c M x k:Nat}{E:Nat → Nat → Prop}{S:Nat → Prop}{l:List Bool}{w nx:List Int}
theorem SpI.pop{z:Int}(h:SpI n E S c l (z::w)):0<=z/\z<n/\SpJ n E S c (2*offs l+w.length) z.toNat nx 0 l w:=by
 obtain⟨e,f,g⟩:=h.h2 z (by simp);refine⟨e,f,h.h1,λy d=>h.h2 y (by simp[d]),h.h3,h.h4,λi j b a=>?_,by simp,g,by have:=h.h6;simp at this;omega,wcq _⟩;rcases h.h5 i j b a with h|h
 ·exact .inl h
 ·rcases wc1.1 h with h|h
  ·exact .inr (.inr (by omega))
  ·exact .inr (.inl h)
theorem SpJ.same(h:SpJ n E S c M x nx k l w)(b:k<nx.length)(h0:0<=nx[k])(d:onB l (nx[k]).toNat):SpJ n E S c M x nx (k+1) l w:=⟨h.j1,h.j2,h.j3,h.j4,h.j5,λy e=>by
 rcases(Qo b y).1 e with a|a
 ·exact h.j6 y a
 ·rw[Jw b]at a;subst a;exact d,h.j7,h.j8,h.j9⟩
theorem SpJ.push(h:SpJ n E S c M x nx k l w)(q:k<nx.length)(h0:0<=nx[k])(r:nx[k]<n)(s:E x (nx[k]).toNat)(u:l[(nx[k]).toNat]?=some false):SpJ n E S c M x nx (k+1) (l.set (nx[k]).toNat true) (w++[nx[k]]):=by
 have m:(nx[k]).toNat<l.length:=by rw[h.j1];omega
 have v:=zw0 u;have o:∀{i},onB l i->onB (l.set (nx[k]).toNat true) i:=λ{i}f=>(J5 m).2 (.inr f);refine⟨by simpa using h.j1,λy p=>?_,λi f=>?_,λi f=>o (h.j4 i f),λi j f t=>?_,λy p=>?_,o h.j7,by have:=h.j8;simp;omega,by have:=h.j9;simp;omega⟩
 ·rcases wco.1 p with e|e
  ·obtain⟨a,b,d⟩:=h.j2 y e;exact⟨a,b,o d⟩
  ·simp at e;subst e;exact⟨h0,r,(J5 m).2 (.inl rfl)⟩
 ·rcases(J5 m).1 f with e|e
  ·exact e ▸ .step (h.j3 x h.j7) s
  ·exact h.j3 i e
 ·rcases(J5 m).1 f with e|e
  ·right;left;simp;right;omega
  ·rcases h.j5 i j e t with g|g|g
   ·exact .inl (o g)
   ·right;left;simp[g]
   ·exact .inr (.inr g)
 ·rcases(Qo q y).1 p with e|e
  ·exact o (h.j6 y e)
  ·rw[Jw q]at e;subst e;exact(J5 m).2 (.inl rfl)
theorem SpJ.out(h:SpJ n E S c M x nx nx.length l w)(d:∀j,E x j->(j:Int)∈nx):SpI n E S c l w:=⟨h.j1,h.j2,h.j3,h.j4,λi j e b=>by
 rcases h.j5 i j e b with a|a|a
 ·exact .inl a
 ·exact .inr a
 ·subst a;have:=h.j6 (j:Int) (by rw[wc2];exact d j b);exact .inl (by simpa using this),h.j8⟩
end
end
end Go.Proofs.YtigdmmgklieofaaGreat
namespace Go.Proofs.YtigdmmgklieofaaGreat.T
noncomputable section
open _root_.Go.Proofs.Tryz
set_option maxRecDepth 100000
set_option maxHeartbeats 8000000
set_option linter.unusedVariables false
set_option linter.unusedSimpArgs false
open Go Go.RowKit L
structure MOk(d:jg):Prop where
 n0:0<d.2.2.1.length
 lab:d.2.2.2.1.length=d.2.2.1.length
 w:0<=d.2.1/\d.2.1<=256
 row:∀i:Int,0<=i->i<d.2.2.1.length->((at' d.2.2.1 i).length:Int)=d.2.1
 nx:∀i c:Int,0<=i->i<d.2.2.1.length->0<=c->c<d.2.1 -> -1<=at' (at' d.2.2.1 i) c/\at' (at' d.2.2.1 i) c<d.2.2.1.length
theorem DRt.m{d:jg}(h:DRt d)(f:DSz d):MOk d:=⟨h.n0,h.lab,f.w,λi h0 a=>h.row _ (zga h0 a),λi c h0 a e b=>by
 have g:=h.row _ (zga h0 a);exact h.nx _ (zga h0 a) _ (zga e (by rw[g];exact b))⟩
def nxt(d:jg)(i:Nat)(c:Int):Int:=at' (at' d.2.2.1 i) c
def dE(d:jg)(i j:Nat):Prop:=i<d.2.2.1.length/\∃c:Int,0<=c/\c<d.2.1/\nxt d i c=j
def zir(d:jg)(i:Nat):Int:=at' d.2.2.2.1 i
theorem jdb{d:jg}(hm:MOk d){i:Nat}(hi:i<d.2.2.1.length){x:Int}:x∈at' d.2.2.1 i↔∃c:Int,0<=c/\c<d.2.1/\nxt d i c=x:=by
 have e:=hm.row i (by omega) (by omega);constructor
 ·intro h;obtain⟨c,a,rfl⟩:=wew h;exact⟨c,by omega,by omega,by unfold nxt;rw[Jw a]⟩
 ·rintro⟨c,h0,b,rfl⟩;exact zga h0 (by omega)
abbrev onL(d:jg)(i:Nat):List Int:=(at' d.2.2.1 i).filter λx=>decide (0<=x)
theorem z64(d:jg)(hm:MOk d)(i:Nat)(hi:i<d.2.2.1.length):(onL d i).length<=256/\(∀x∈onL d i,0<=x/\x<d.2.2.1.length)/\∀j:Nat,(j:Int)∈onL d i↔dE d i j:=by
 have k:=hm.w;have h:=hm.row i (by omega) (by omega);refine⟨wdk (wen ..) (by omega),λx g=>?_,λj=>?_⟩
 ·obtain⟨b,a⟩:=wey.1 g;obtain⟨c,e,f,rfl⟩:=(jdb hm hi).1 b;have:=hm.nx i c (by omega) (by omega) e f;simp at a;exact⟨a,this.2⟩
 ·rw[wey,jdb hm hi];unfold dE;simp[hi]
theorem zpl{α:Type}{l:List α}{k:Nat}(h:k<l.length)(p:α->Bool):(l.take (k+1)).filter p=if p l[k]then(l.take k).filter p++[l[k]]else(l.take k).filter p:=by
 rw[wcn h,we7];by_cases a:p l[k]<;>simp[a]
theorem z05(d:jg)(j:DSz d)(hm:MOk d)(i:Nat)(hi:i<d.2.2.1.length):Tn (λn=>zec n d (i:Int)) (λr=>r=onL d i):=by
 have e:at' d.2.2.1 (i:Int)=d.2.2.1[i]:=Jw hi;have h:=j.r _ (wcm hi);unfold onL;rw[e];unfold zec;refine wac _ (atN hi) ?_;generalize d.2.2.1[i]=row at h;refine Tt.loop (λm s=>∃k:Nat,k<=row.length/\m=row.length-k/\s=(row,(row.length:Int),(k:Int),(row.take k).filter λx=>decide (0<=x))) row.length waa ⟨0,by omega,rfl,by simp⟩ ?_;rintro _ _ ⟨k,o,rfl,rfl⟩ p g;dsimp only;refine wab (λc=>?_) λc=>?_
 ·have c:=wcd c;have b:k<row.length:=by omega
  refine Tt.J (λs=>s=(row,(row.length:Int),(k:Int),(row.take (k+1)).filter λx=>decide (0<=x))) (λq a=>?_) λs l=>?_
  ·refine wac _ (atN b) ?_;rw[zpl b]at a;refine wab (λf=>?_) λf=>?_
   ·rw[if_pos f]at a;refine wac _ (yf (by have:=wen (λx:Int=>decide (0<=x)) (row.take k);simp at this⊢;omega) (by omega)) (a _ rfl)
   ·rw[if_neg (by rw[f];simp)]at a;exact a _ rfl
  ·subst l;refine wad ?_;dsimp only;rw[wI (by omega) (by omega)];exact g (row.length-(k+1)) _ (by omega) ⟨k+1,by omega,rfl,rfl⟩
 ·have c:=wce c;have:k=row.length:=by omega
  subst this;rw[wc2];exact Tt.pure rfl
def MkI(n:Nat)(a:List Int)(k:Nat)(l:List Bool):Prop:=l.length=n/\∀i:Nat,onB l i↔(i:Int)∈a.take k
theorem MkI.zero{n:Nat}{a:List Int}:MkI n a 0 (List.replicate n false):=⟨by simp,λi=>by simp[z5g]⟩
theorem MkI.next{n k:Nat}{a:List Int}{l:List Bool}(h:MkI n a k l)(b:k<a.length)(h0:0<=a[k])(c:a[k]<n):MkI n a (k+1) (l.set (a[k]).toNat true):=⟨by simpa using h.1,λi=>by
 rw[jid h0 (by rw[h.1];exact c),h.2,Qo b,Jw b];constructor<;>(rintro(h|h)<;>simp[h])⟩
theorem MkI.sp{n c:Nat}{d:List Int}{l:List Bool}{E:Nat->Nat->Prop}(h:MkI n d d.length l)(k:∀x∈d,0<=x/\x<n)(m:d.length+n<=c):SpI n E (λi=>(i:Int)∈d) c l d:=by
 have f:∀i:Nat,onB l i↔(i:Int)∈d:=λi=>by rw[h.2,wc2]
 refine⟨h.1,λx g=>?_,λi e=> .base ((f i).1 e),λi e=>(f i).2 e,λi j e _=> .inr ((f i).1 e),by have:=z45 l;rw[h.1]at this;omega⟩;obtain⟨a,b⟩:=k x g;exact⟨a,b,(f _).2 (by rw[Int.toNat_of_nonneg a];exact g)⟩
theorem off1{α:Type}{x:α}{l:List α}:zxs (x::l) 1=some 1:=by
 unfold zxs;have:decide ((1:Int)<=((x::l).length:Int))=true:=by simp;omega
 rw[this];rfl
theorem zrx(d:jg)(K:DSz d){b:Bool}(hb:Tn (λX=>ze X d) (· = b)):Tn (λX=>Qv X d) (λr=>b=false/\r=[]\/b=true/\MOk d/\r=ze8 d.2.2.1.length (dE d) (λi=>i=0)):=by
 have hn:=K.n;obtain⟨b',S,hq⟩:=(zyf d K).val;have hR:b=true->MOk d:=λh=>by
  obtain⟨c,⟨N,h1⟩,rfl⟩:=hb;obtain⟨c',⟨Z,R⟩,rfl⟩:=S;have e:=(h1 (max N Z) (by omega)).symm.trans (R (max N Z) (by omega));have e:=wdz e;exact(hq (e▸h)).m K
 unfold Qv;refine Waa hb waa λr V=>?_;subst V;cases r with
 |false=>exact wah rfl (Tt.pure (.inl ⟨rfl,rfl⟩))
 |true=>
 have M:=hR rfl;have h0:=M.n0;refine wae rfl (wac _ (mkN (by omega) (by omega)) (wac _ (sm7 (by simp)) ?_));have C:∀x∈[(0:Int)],0<=x/\x<d.2.2.1.length:=λx hx=>by simp at hx;subst hx;omega
 refine Tt.loop (λm s=>∃(k:Nat)(l:List Bool),k<=1/\m=1-k/\s=([0],([(0:Int)].length:Int),(k:Int),d,l,[0])/\MkI d.2.2.1.length [0] k l) 1 waa ⟨0,_,by omega,rfl,rfl,MkI.zero⟩ ?_;rintro _ _ ⟨k,l,hk,rfl,rfl,v⟩ nx U;dsimp only;refine wab (λc=>?_) λc=>?_
 ·have c:=wcd c;have u:k<[(0:Int)].length:=by simp at c⊢;omega
  obtain⟨Y,z1⟩:=C _ (wcm u);refine wac _ (atN u) ?_;have h2:=v.next u Y z1
  generalize [(0:Int)][k]=z at h2 Y z1;obtain⟨q,rfl⟩:=weh Y;refine wac _ (qv (by rw[v.1];omega)) (wac _ (zm _ (by rw[v.1];omega)) (wad ?_));rw[wI (by omega) (by omega)];exact U (1-(k+1)) _ (by simp at u;omega) ⟨k+1,_,by simp at u;omega,rfl,rfl,by simpa using h2⟩
 ·have c:=wce c;have:k=[(0:Int)].length:=by simp at c⊢;omega
  subst this;have W:=v.sp (E:=dE d) (c:=1+d.2.2.1.length) C (by simp);refine Tt.loop (φ:=λp:Nat×Nat=>p.1) (λm s=>∃(l:List Bool)(w:List Int),s=(d,l,w)/\m=2*offs l+w.length/\SpI d.2.2.1.length (dE d) (λi=>(i:Int)∈[(0:Int)]) (1+d.2.2.1.length) l w) _ waa.fst ⟨l,[0],rfl,rfl,W⟩ ?_;rintro _ _ ⟨l,w,rfl,rfl,hi⟩ b5 D;dsimp only;cases w with
  |nil=>
   refine wae rfl (Tt.pure (.inr ⟨rfl,M,?_⟩));rw[hi.done];congr 1;funext i;simp
  |cons x w=>
   obtain⟨x0,x1,L⟩:=hi.pop (nx:=onL d x.toNat);obtain⟨q,rfl⟩:=weh x0;simp only[wcx]at L;have H:q<d.2.2.1.length:=by omega
   obtain⟨f1,f2,f3⟩:=z64 d M q H;refine wah (wc9 (by simp)) (wac (0:Int) (qv (k:=0) (by simp)) (wac ((q:Nat):Int) rfl (wac 1 off1 ?_)));refine Waa (z05 d K M q H) waa.fst.fst λr V=>?_;subst V;refine Tt.loop (φ:=λp:(Nat×Nat)×Nat=>p.1.1) (λm s=>∃(k:Nat)(A:List Bool)(P:List Int),k<=(onL d q).length/\m=(onL d q).length-k/\s=(onL d q,((onL d q).length:Int),(k:Int),d,A,P)/\SpJ d.2.2.1.length (dE d) (λi=>(i:Int)∈[(0:Int)]) (1+d.2.2.1.length) (2*offs l+w.length) q (onL d q) k A P) _ waa.fst.fst ⟨0,l,w,by omega,rfl,rfl,L⟩ ?_;rintro _ _ ⟨k,A,P,b2,rfl,rfl,o⟩ b6 F;dsimp only;refine wab (λB=>?_) λB=>?_
   ·have B:=wcd B;have a:k<(onL d q).length:=by omega
    obtain⟨I,y1⟩:=f2 _ (wcm a);have hE:=(f3 ((onL d q)[k]).toNat).1 (by rw[Int.toNat_of_nonneg I];exact wcm a);have j8:=o.j8;refine Tt.J (λs=>∃(O:List Bool)(Q:List Int),s=(onL d q,((onL d q).length:Int),(k:Int),d,O,Q)/\SpJ d.2.2.1.length (dE d) (λi=>(i:Int)∈[(0:Int)]) (1+d.2.2.1.length) (2*offs l+w.length) q (onL d q) (k+1) O Q) (λny G=>?_) λs⟨O,Q,hs,T⟩=>?_
    ·have g:=o.same a I;have f:=o.push a I y1 hE;refine wac _ (atN a) ?_;generalize (onL d q)[k]=y at I y1 g f;obtain⟨j,rfl⟩:=weh I;simp only[wcx]at g f;have t:j<A.length:=by rw[o.j1];omega
     refine wac _ (qv t) (wac _ (atN t) ?_);cases hv:A[j]with
     |true=>exact wae rfl (G _ ⟨_,_,rfl,g (by unfold onB;rw[wcf t,hv])⟩)
     |false=>
      exact wah rfl (wac _ (qv t) (wac _ (zm _ t) (wac _ (yf (by simp;omega) (by omega)) (G _ ⟨_,_,rfl,f (by rw[wcf t,hv])⟩))))
    ·subst hs;refine wad ?_;dsimp only;rw[wI (by omega) (by omega)];exact F ((onL d q).length-(k+1)) _ (by omega) ⟨k+1,O,Q,by omega,rfl,rfl,T⟩
   ·have B:=wce B;have:k=(onL d q).length:=by omega
    subst this;exact Tt.fst (D _ _ (by have:=o.j9;simp;omega) ⟨A,P,rfl,rfl,o.out λj L=>(f3 j).2 L⟩)
structure BkI(d:jg)(k t:Nat)(back:List (List Int)):Prop where
 l:back.length=d.2.2.1.length
 r:∀(j:Nat)(x:List Int),back[j]?=some x->x.length<=256*k+t/\∀i:Int,i∈x↔∃q:Nat,i=q/\((q<k/\dE d q j)\/(q=k/\(j:Int)∈(onL d k).take t))
theorem BkI.zero{d:jg}:BkI d 0 0 (List.replicate d.2.2.1.length []):=⟨by simp,λj x h=>by
 rw[wdf]at h;split at h<;>cases h;exact⟨by simp,λi=>by simp⟩⟩
theorem BkI.up{d:jg}{k:Nat}{back:List (List Int)}(h:BkI d k (onL d k).length back)(g:(onL d k).length<=256)(a:∀j:Nat,(j:Int)∈onL d k↔dE d k j):BkI d (k+1) 0 back:=⟨h.l,λj x c=>by
 obtain⟨f,b⟩:=h.r j x c;refine⟨by omega,λi=>(b i).trans ?_⟩;rw[wc2];constructor
 ·rintro⟨q,rfl,h|h⟩
  ·exact⟨q,rfl,.inl ⟨by omega,h.2⟩⟩
  ·exact⟨q,rfl,.inl ⟨by omega,by rw[h.1];exact(a j).1 h.2⟩⟩
 ·rintro⟨q,rfl,h|h⟩
  ·refine⟨q,rfl,?_⟩;by_cases e:q=k
   ·right;subst e;exact⟨rfl,(a j).2 h.2⟩
   ·left;exact⟨by omega,h.2⟩
  ·simp at h⟩
theorem BkI.add{d:jg}{k t:Nat}{back:List (List Int)}(h:BkI d k t back){j:Nat}(a:t<(onL d k).length)(f:(onL d k)[t]=(j:Int))(m:j<back.length):BkI d k (t+1) (back.set j (back[j]++[(k:Int)])):=⟨by simpa using h.l,λn x b=>by
 rw[wc8]at b;split at b
 ·rename_i e;subst e;cases b;obtain⟨g,c⟩:=h.r j _ (wcf m);refine⟨by simp;omega,λi=>?_⟩;rw[wco,c,wci];constructor
  ·rintro(⟨q,rfl,h|h⟩|rfl)
   ·exact⟨q,rfl,.inl h⟩
   ·exact⟨q,rfl,.inr ⟨h.1,(Qo a _).2 (.inl h.2)⟩⟩
   ·exact⟨k,rfl,.inr ⟨rfl,(Qo a _).2 (.inr (by rw[Jw a,f]))⟩⟩
  ·rintro⟨q,rfl,h|⟨rfl,h⟩⟩
   ·exact .inl ⟨q,rfl,.inl h⟩
   ·exact .inr rfl
 ·rename_i e;obtain⟨g,c⟩:=h.r n x b;refine⟨by omega,λi=>(c i).trans ?_⟩;constructor
  ·rintro⟨q,rfl,h|h⟩
   ·exact⟨q,rfl,.inl h⟩
   ·exact⟨q,rfl,.inr ⟨h.1,(Qo a _).2 (.inl h.2)⟩⟩
  ·rintro⟨q,rfl,h|⟨rfl,h⟩⟩
   ·exact⟨q,rfl,.inl h⟩
   ·rcases(Qo a _).1 h with h|h
    ·exact⟨q,rfl,.inr ⟨rfl,h⟩⟩
    ·rw[Jw a,f]at h;omega⟩
def BgI(d:jg)(k:Nat)(a:List Int):Prop:=a.length<=k/\∀i:Int,i∈a↔∃q:Nat,i=q/\q<k/\0<=zir d q
theorem jnm{α:Type}{l:List (List α)}{j:Nat}(x:List α)(h:j<l.length):z1r (some ((j:Int).toNat)) l (j:Int) x=some (l.set j x):=by
 unfold z1r;simp only[wev];exact zm x h
theorem jf5(d:jg)(hd:DSz d){b:Bool}(hb:Tn (λnn=>ze nn d) (· = b)):Tn (λnn=>za1 nn d) (λr=>b=false/\r=[]\/b=true/\MOk d/\r=ze8 d.2.2.1.length (λi j=>dE d j i) (λi=>i<d.2.2.1.length/\0<=zir d i)):=by
 have hn:=hd.n;obtain⟨b',b4,hq⟩:=(zyf d hd).val;have hR:b=true->MOk d:=λh=>by
  obtain⟨c,⟨N,K⟩,rfl⟩:=hb;obtain⟨c',⟨N',b3⟩,rfl⟩:=b4;have e:=(K (max N N') (by omega)).symm.trans (b3 (max N N') (by omega));have e:=wdz e;exact(hq (e▸h)).m hd
 unfold za1;refine Waa hb waa λr hr=>?_;subst hr;cases r with
 |false=>exact wah rfl (Tt.pure (.inl ⟨rfl,rfl⟩))
 |true=>
 have Y:=hR rfl;have h0:=Y.n0;have d3:=Y.lab;refine wae rfl (wad (wac _ (mkN (by omega) (by omega)) ?_));refine Tt.loop (λm s=>∃(k:Nat)(f:List Int)(a:List (List Int)),k<=d.2.2.1.length/\m=d.2.2.1.length-k/\s=(d.2.2.2.1,(d.2.2.2.1.length:Int),(k:Int),d,f,a)/\BgI d k f/\BkI d k 0 a) d.2.2.1.length waa ⟨0,[],_,by omega,rfl,rfl,⟨by simp,λi=>by simp⟩,BkI.zero⟩ ?_;rintro _ _ ⟨k,f,a,hk,rfl,rfl,u,Q⟩ nx b7;dsimp only;refine wab (λc=>?_) λc=>?_
 ·have c:=wcd c;have X:k<d.2.2.1.length:=by omega
  have W:k<d.2.2.2.1.length:=by omega
  obtain⟨f1,f2,f3⟩:=z64 d Y k X;refine Tt.J (λs=>∃(F:List Int)(g:List (List Int)),s=(d.2.2.2.1,(d.2.2.2.1.length:Int),(k:Int),d,F,g)/\BgI d (k+1) F/\BkI d (k+1) 0 g) (λny M=>?_) λs⟨F,g,hs,G,S⟩=>?_
  ·refine wac _ (atN W) (Waa (z05 d hd Y k X) waa.fst λr hr=>?_);subst hr;refine Tt.loop (φ:=λp:Nat×Nat=>p.1) (λm s=>∃(t:Nat)(g:List (List Int)),t<=(onL d k).length/\m=(onL d k).length-t/\s=((k:Int),d.2.2.2.1[k],d.2.2.2.1,(d.2.2.2.1.length:Int),(k:Int),onL d k,((onL d k).length:Int),(t:Int),d,f,g)/\BkI d k t g) _ waa.fst ⟨0,a,by omega,rfl,rfl,Q⟩ ?_;rintro _ _ ⟨t,g,ht,rfl,rfl,G⟩ c7 L;dsimp only;refine wab (λI=>?_) λI=>?_
   ·have I:=wcd I;have A:t<(onL d k).length:=by omega
    obtain⟨T,y1⟩:=f2 _ (wcm A);refine wac _ (atN A) ?_;obtain⟨j,R⟩:=weh T;rw[R]at y1⊢;have o:j<g.length:=by rw[G.l];omega
    have b5:=(G.r j _ (wcf o)).1;refine wac _ (qv o) (wac _ (atN o) (wac (g[j]++[(k:Int)]) (by rw[atN o];exact yf (by simp;omega) (by omega)) (wac _ (qv o) (wac _ (jnm _ o) (wad ?_)))));rw[wI (by omega) (by omega)];exact L ((onL d k).length-(t+1)) _ (by omega) ⟨t+1,_,by omega,rfl,rfl,G.add A R o⟩
   ·have I:=wce I;have:t=(onL d k).length:=by omega
    subst this;have a3:=G.up f1 f3;have hl:zir d k=d.2.2.2.1[k]:=Jw W;refine wab (λP=>?_) λP=>?_
    ·have P:=wcd P;refine wac _ (yf (by have:=u.1;simp;omega) (by omega)) (M.fst _ ⟨_,g,rfl,⟨by have:=u.1;simp;omega,λi=>?_⟩,a3⟩);rw[wco,u.2,wci];constructor
     ·rintro(⟨q,rfl,K,v⟩|rfl)
      ·exact⟨q,rfl,by omega,v⟩
      ·exact⟨k,rfl,by omega,by rw[hl];exact P⟩
     ·rintro⟨q,rfl,K,v⟩;by_cases e:q=k
      ·right;rw[e]
      ·left;exact⟨q,rfl,by omega,v⟩
    ·have P:=wce P;refine M.fst _ ⟨f,g,rfl,⟨by have:=u.1;omega,λi=>(u.2 i).trans ?_⟩,a3⟩;constructor
     ·rintro⟨q,rfl,K,v⟩;exact⟨q,rfl,by omega,v⟩
     ·rintro⟨q,rfl,K,v⟩;refine⟨q,rfl,?_,v⟩;by_cases e:q=k
      ·rw[e,hl]at v;exact absurd v P
      ·omega
  ·subst hs;refine wad ?_;dsimp only;rw[wI (by omega) (by omega)];exact b7 (d.2.2.1.length-(k+1)) _ (by omega) ⟨k+1,F,g,by omega,rfl,rfl,G,S⟩
 ·have c:=wce c;have:k=d.2.2.1.length:=by omega
  subst this;have V:∀x∈f,0<=x/\x<d.2.2.1.length:=λx hx=>by
   obtain⟨q,rfl,K,_⟩:=(u.2 x).1 hx;omega
  have a2:∀(x:Nat)(hx:x<a.length),(a[x]).length<=256*d.2.2.1.length/\(∀y∈a[x],0<=y/\y<d.2.2.1.length)/\∀j:Nat,(j:Int)∈a[x]↔dE d j x:=λx hx=>by
   obtain⟨K,v⟩:=Q.r x _ (wcf hx);refine⟨by omega,λy hy=>?_,λj=>(v j).trans ?_⟩
   ·obtain⟨q,rfl,h|h⟩:=(v y).1 hy
    ·omega
    ·simp at h
   ·constructor
    ·rintro⟨q,hq,h|h⟩
     ·have:j=q:=by omega
      subst this;exact h.2
     ·simp at h
    ·intro h;exact⟨j,rfl,.inl ⟨h.1,h⟩⟩
  refine wac _ (mkN (by omega) (by omega)) (wac _ (sm7 (by have:=u.1;omega)) ?_);refine Tt.loop (φ:=λp:Nat×Nat=>p.1) (λm s=>∃(k:Nat)(l:List Bool),k<=f.length/\m=f.length-k/\s=(some a,(f.length:Int),(k:Int),f,l,f)/\MkI d.2.2.1.length f k l) _ waa.fst ⟨0,_,by omega,rfl,rfl,MkI.zero⟩ ?_;rintro _ _ ⟨k,l,S,rfl,rfl,O⟩ e0 Z;dsimp only;refine wab (λc0=>?_) λc0=>?_
  ·have c0:=wcd c0;have A:k<f.length:=by omega
   obtain⟨z0,z1⟩:=V _ (wcm A);refine wac _ (qv A) (wac _ (atN A) ?_);have v:=O.next A z0 z1
   generalize f[k]=z at v z0 z1;obtain⟨q,rfl⟩:=weh z0;refine wac _ (qv (by rw[O.1];omega)) (wac _ (zm _ (by rw[O.1];omega)) (wad ?_));have:=u.1;rw[wI (by omega) (by omega)];exact Z (f.length-(k+1)) _ (by omega) ⟨k+1,_,by omega,rfl,rfl,by simpa using v⟩
  ·have c0:=wce c0;have:k=f.length:=by omega
   subst this;have c4:=O.sp (E:=λi j=>dE d j i) (c:=f.length+d.2.2.1.length) V (by omega);have b5:=u.1;refine Tt.loop (φ:=λp:(Nat×Nat)×Nat=>p.1.1) (λm s=>∃(l:List Bool)(w:List Int),s=(some a,f,l,w)/\m=2*offs l+w.length/\SpI d.2.2.1.length (λi j=>dE d j i) (λi=>(i:Int)∈f) (f.length+d.2.2.1.length) l w) _ waa.fst.fst ⟨l,f,rfl,rfl,c4⟩ ?_;rintro _ _ ⟨l,w,rfl,rfl,hi⟩ c7 L;dsimp only;cases w with
   |nil=>
    refine wae rfl (Tt.pure (.inr ⟨rfl,Y,?_⟩));rw[hi.done];congr 1;funext i;rw[u.2];refine propext ⟨λ⟨q,hq,K,v⟩=>?_,λ⟨K,v⟩=>⟨i,rfl,K,v⟩⟩;have:i=q:=by omega
    subst this;exact⟨K,v⟩
   |cons x w=>
    have c5:=(hi.h2 x (by simp)).1;have d8:=(hi.h2 x (by simp)).2.1;obtain⟨q,rfl⟩:=weh c5;have a1:q<a.length:=by rw[Q.l];omega
    obtain⟨f1,f2,f3⟩:=a2 q a1;obtain⟨_,_,R⟩:=hi.pop (nx:=a[q]);simp only[wcx]at R;refine wah (wc9 (by simp)) (wac (0:Int) (qv (k:=0) (by simp)) (wac ((q:Nat):Int) rfl (wac 1 off1 (wad (wac _ (atN a1) ?_)))));refine Tt.loop (φ:=λp:((Nat×Nat)×Nat)×Nat=>p.1.1.1) (λm s=>∃(k:Nat)(U:List Bool)(w2:List Int),k<=(a[q]).length/\m=(a[q]).length-k/\s=(some a,a[q],((a[q]).length:Int),(k:Int),f,U,w2)/\SpJ d.2.2.1.length (λi j=>dE d j i) (λi=>(i:Int)∈f) (f.length+d.2.2.1.length) (2*offs l+w.length) q a[q] k U w2) _ waa.fst.fst.fst ⟨0,l,w,by omega,rfl,rfl,R⟩ ?_;rintro _ _ ⟨k,U,w2,S,rfl,rfl,H⟩ e1 a0;dsimp only;refine wab (λI=>?_) λI=>?_
    ·have I:=wcd I;have B:k<(a[q]).length:=by omega
     obtain⟨T,y1⟩:=f2 _ (wcm B);have hE:=(f3 ((a[q])[k]).toNat).1 (by rw[Int.toNat_of_nonneg T];exact wcm B);have j8:=H.j8;refine Tt.J (λs=>∃(l3:List Bool)(w3:List Int),s=(some a,a[q],((a[q]).length:Int),(k:Int),f,l3,w3)/\SpJ d.2.2.1.length (λi j=>dE d j i) (λi=>(i:Int)∈f) (f.length+d.2.2.1.length) (2*offs l+w.length) q a[q] (k+1) l3 w3) (λny M=>?_) λs⟨l3,w3,hs,b6⟩=>?_
     ·have D:=H.same B T;have C:=H.push B T y1 hE;refine wac _ (atN B) ?_;generalize (a[q])[k]=y at T y1 D C;obtain⟨j,rfl⟩:=weh T;simp only[wcx]at D C;have o:j<U.length:=by rw[H.j1];omega
      refine wac _ (qv o) (wac _ (atN o) ?_);cases hv:U[j]with
      |true=>exact wae rfl (M _ ⟨_,_,rfl,D (by unfold onB;rw[wcf o,hv])⟩)
      |false=>
       exact wah rfl (wac _ (qv o) (wac _ (zm _ o) (wac _ (yf (by simp;omega) (by omega)) (M _ ⟨_,_,rfl,C (by rw[wcf o,hv])⟩))))
     ·subst hs;refine wad ?_;dsimp only;rw[wI (by omega) (by omega)];exact a0 ((a[q]).length-(k+1)) _ (by omega) ⟨k+1,l3,w3,by omega,rfl,rfl,b6⟩
    ·have I:=wce I;have:k=(a[q]).length:=by omega
     subst this;exact Tt.fst (L _ _ (by have:=H.j9;simp;omega) ⟨U,w2,rfl,rfl,H.out λj R=>(f3 j).2 R⟩)
set_option maxRecDepth 100000
theorem jn4(nn:Nat):Zm (nn+300)=some true:=by kernel_rfl
abbrev zD:jg:=(⟨List.replicate 256 0,wch⟩,0,[],[],())
theorem zr3:Tn (λa=>Zm a) (λb=>b=true):=⟨true,⟨300,λn c=>by
 obtain⟨k,rfl⟩:∃k,n=k+300:=⟨n-300,by omega⟩
 exact jn4 k⟩,rfl⟩
theorem z0w(g:jb)(a:Y1 g)(y:jg×List (List Int)×Unit):Tn (λc=>Yp c (some (g,y))) (λd=>d=gFd g):=by
 unfold Yp;refine wad ?_;refine Waa (jcg g a) waa λr b=>Tt.pure b
open Classical in
def zib(l:List jf):Bool:=if h:∃r,Tn (λa=>vy a l) (λx=>x=r)then h.choose else false
theorem z61(l:List jf)(c:l.length<=1000000):Tn (λa=>vy a l) (λx=>x=zib l):=by
 obtain⟨r,h,_⟩:=(z38 l c).val;have b:∃r,Tn (λa=>vy a l) (λx=>x=r):=⟨r,h⟩
 unfold zib;rw[dif_pos b];exact b.choose_spec
def fs2(kd a:Int):List Bool->Nat->jd
 |[],_=>(0,0,0,())
 |b::l,i=>match b with
  |true=>fs2 kd a l (i+1)
  |false=>(kd,i,a,())
theorem jfa{g:jb}(j:Y1 g)(h:GOk g)(y:jg×List (List Int)×Unit):Tn (λn=>Yq n (some (g,y))) (λd=>d=fs2 10 0 (g.1.map λx=>!zib x.2.1) 0):=by
 have q:=h.t;unfold Yq;refine Tt.J (λd=>d=fs2 10 0 (g.1.map λx=>!zib x.2.1) 0) (λu b=>?_) (λs i=>Tt.pure i);refine wad ?_;refine Tt.loop (λm s=>∃k:Nat,k<=g.1.length/\m=g.1.length-k/\s=(10,0,(g.1.length:Int),(k:Int),some (g,y),(0,0,0,()))/\fs2 10 0 (g.1.map λx=>!zib x.2.1) 0=fs2 10 0 ((g.1.drop k).map λx=>!zib x.2.1) k) g.1.length waa ⟨0,by omega,by omega,rfl,rfl⟩ λm s⟨k,o,p,i,e⟩ v f=>?_;subst i;dsimp only;refine wab (λc=>?_) (λc=>b.fst _ ?_)
 ·have c:=wcd c;have a:k<g.1.length:=by omega
  rw[wc0 a,wc4]at e;refine wad (wac _ (atN a) ?_);refine Waa (z61 _ (j.tn _ (wcm a))) waa.fst λr l=>?_;subst l;refine wab (λcb=>b.fst _ ?_) λcb=>wad ?_
  ·have cb:zib g.1[k].2.1=true:=by simpa using cb
   rw[e,cb];rfl
  ·have cb:zib g.1[k].2.1=false:=by simpa using cb
   rw[wI (by omega) (by omega)];exact f (g.1.length-(k+1)) _ (by omega) ⟨k+1,by omega,rfl,by simp,by rw[e,cb];rfl⟩
 ·have c:=wce c;have:k=g.1.length:=by omega
  subst this;rw[e,wd3];rfl
theorem jez(l:List Int)(x:Int)(h:l.length<=1000000):Tn (λf=>zg f l x) (λr=>0<=r↔x∈l):=by
 unfold zg;refine Tt.loop (λm s=>∃(k:Nat),k<=l.length/\m=l.length-k/\s=(l,x,(l.length:Int),(k:Int))/\(x∈l↔x∈l.drop k)) l.length waa ⟨0,by omega,by omega,rfl,Iff.rfl⟩ λm s⟨k,g,i,e,b⟩ j d=>?_;subst e;dsimp only;refine wab (λc=>?_) (λc=>Tt.pure ?_)
 ·have c:=wcd c;have a:k<l.length:=by omega
  rw[wc0 a,wc1]at b;refine wac _ (atN a) (wab (λcb=>Tt.pure ?_) λcb=>wad ?_)
  ·have cb:=wcd cb;exact⟨λ_=>b.2 (.inl cb),λ_=>by omega⟩
  ·have cb:=wce cb;rw[wI (by omega) (by omega)];exact d (l.length-(k+1)) _ (by omega) ⟨k+1,by omega,rfl,rfl,b.trans (or_iff_right cb)⟩
 ·have c:=wce c;have:k=l.length:=by omega
  subst this;rw[b,wd3];simp
theorem z2x(l:List Int)(x:Int)(c:l.length<=1000000):Tn (λd=>yk d l x) (λr=>r=decide (x∈l)):=by
 unfold yk;refine Waa (jez l x c) waa λr a=>Tt.pure ?_;by_cases h:x∈l
 ·simp[h,a.2 h]
 ·have:¬0<=r:=λb=>h (a.1 b);simp[h];omega
theorem jgm{g:jb}(x:g.1.length<=1000000)(d:jg)(t:List (List Int)){lt:List Int}(v:lt.length<=1000000)(q:Tn (λo=>zw o d) (λr=>r=lt)):Tn (λo=>Jg o (some (g,d,t,()))) (λd=>d=fs2 13 1 ((List.range g.1.length).map λ(i:Nat)=>decide ((i:Int)∈lt)) 0):=by
 unfold Jg;refine wad (Waa q waa λr w=>?_);subst w;obtain⟨L,f⟩:∃L,((List.range g.1.length).map λ(i:Nat)=>decide ((i:Int)∈r))=L:=⟨_,rfl⟩
 have p:L.length=g.1.length:=by rw[<- f];simp
 rw[f];refine Tt.J (λd=>d=fs2 13 1 L 0) (λA a=>wad ?_) λs n=>Tt.pure n;refine Tt.loop (λm s=>∃k:Nat,k<=g.1.length/\m=g.1.length-k/\s=(13,1,(g.1.length:Int),(k:Int),r,(0,0,0,()))/\fs2 13 1 L 0=fs2 13 1 (L.drop k) k) g.1.length waa ⟨0,by omega,by omega,rfl,rfl⟩ λm s⟨k,y,z,n,e⟩ B l=>?_;subst n;dsimp only;refine wab (λc=>?_) (λc=>a.fst _ ?_)
 ·have c:=wcd c;have j:k<L.length:=by omega
  have h:L[k]=decide ((k:Int)∈r):=by subst f;simp
  rw[wc0 j,h]at e;refine Waa (z2x r _ v) waa.fst λb u=>?_;subst u;refine wab (λcb=>a.fst _ ?_) λcb=>wad ?_
  ·have cb:decide ((k:Int)∈r)=false:=by simpa using cb
   rw[e,cb];rfl
  ·have cb:decide ((k:Int)∈r)=true:=by simpa using cb
   rw[wI (by omega) (by omega)];exact l (g.1.length-(k+1)) _ (by omega) ⟨k+1,by omega,rfl,by simp,by rw[e,cb];rfl⟩
 ·have c:=wce c;have:k=L.length:=by omega
  subst this;rw[e,wd3];rfl
theorem z1i:∀{L:List jd},(jz L).1=0->jz L=zd
 |[],_=>rfl
 |d::l,h=>by
  unfold jz at h⊢;by_cases c:d.1=0
  ·rw[if_pos c]at h⊢;exact z1i h
  ·rw[if_neg c]at h;exact absurd h c
theorem jai{kd b:Int}(a:kd≠0):∀{l:List Bool}{i:Nat},(fs2 kd b l i).1=0->fs2 kd b l i=zd
 |[],_,_=>rfl
 |true::l,i,h=>jai a (l:=l) (i:=i+1) h
 |false::l,i,h=>absurd h a
def ztm(a:Nat)(e:Int)(lt:List Int):jd:=if e=0 then fs2 13 1 ((List.range a).map λ(i:Nat)=>decide ((i:Int)∈lt)) 0 else(16,0,0,())
theorem zbm(l:List Int)(x:Int)(i:l.length<=1000000):Tn (λf=>Qb f l x) (λr=>r=decide (x∈l)):=by
 unfold Qb;refine Tt.loop (λm s=>∃(k:Nat),k<=l.length/\m=l.length-k/\s=(l,x,(k:Int))/\(x∈l↔x∈l.drop k)) l.length waa ⟨0,by omega,by omega,rfl,Iff.rfl⟩ λm s⟨k,g,j,e,a⟩ n d=>?_;subst e;dsimp only;refine wab (λc=>?_) (λc=>Tt.pure ?_)
 ·have c:=wcd c;have b:k<l.length:=by omega
  rw[wc0 b,wc1]at a;refine wac _ (atN b) (wab (λcb=>Tt.pure ?_) λcb=>wad ?_)
  ·have cb:=wcd cb;exact(wc9 (a.2 (.inl cb.symm))).symm
  ·have cb:=wce cb;rw[wI (by omega) (by omega)];exact d (l.length-(k+1)) _ (by omega) ⟨k+1,by omega,rfl,rfl,a.trans (or_iff_right λh=>cb h.symm)⟩
 ·have c:=wce c;have:k=l.length:=by omega
  subst this;rw[wd3]at a;exact(wcw λh=>by cases a.1 h).symm
theorem zfm(a b:List Int)(p:a.length<=1000000)(q:b.length<=1000000):Tn (λo=>Q8 o a b) (λr=>r=decide (a=b)):=by
 unfold Q8;refine wab (λc=>Tt.pure ?_) λc=>?_
 ·have c:=wcd c;exact(wcw λh=>c (by rw[h])).symm
 have u:a.length=b.length:=by have:=wce c;omega
 refine Tt.loop (λm s=>∃(k:Nat),k<=a.length/\m=a.length-k/\s=(a,b,(k:Int))/\(a=b↔a.drop k=b.drop k)) a.length waa ⟨0,by omega,by omega,rfl,Iff.rfl⟩ λm s⟨k,t,v,n,e⟩ w g=>?_;subst n;dsimp only;refine wab (λc=>?_) (λc=>Tt.pure ?_)
 ·have c:=wcd c;have f:k<a.length:=by omega
  have d:k<b.length:=by omega
  rw[wc0 f,wc0 d,wf0]at e;refine wac _ (atN f) (wac _ (atN d) (wab (λcb=>Tt.pure ?_) λcb=>wad ?_))
  ·have cb:=wcd cb;exact(wcw λh=>cb (e.1 h).1).symm
  ·have cb:=wce cb;have cb:a[k]=b[k]:=by omega
   rw[wI (by omega) (by omega)];exact g (a.length-(k+1)) _ (by omega) ⟨k+1,by omega,rfl,rfl,e.trans (and_iff_right cb)⟩
 ·have c:=wce c;have i:k=a.length:=by omega
  have j:a.drop k=[]:=by rw[i];exact wd3
  have l:b.drop k=[]:=wdu (by omega);rw[j,l]at e;exact(wc9 (e.2 rfl)).symm
def zbb:List (List Int)->List Int->Nat->Int
 |[],_,_ => -1
 |y::l,x,i=>if y=x then(i:Int)else zbb l x (i+1)
theorem z75(l:List (List Int))(x:List Int)(p:l.length<=1000000)(i:x.length<=1000000)(j:∀y∈l,y.length<=1000000):Tn (λn=>zdx n l x) (λr=>r=zbb l x 0):=by
 unfold zdx;refine Tt.loop (λm s=>∃(k:Nat),k<=l.length/\m=l.length-k/\s=(l,x,(k:Int))/\zbb l x 0=zbb (l.drop k) x k) l.length waa ⟨0,by omega,by omega,rfl,rfl⟩ λm s⟨k,o,q,h,a⟩ t e=>?_;subst h;dsimp only;refine wab (λc=>?_) (λc=>Tt.pure ?_)
 ·have c:=wcd c;have d:k<l.length:=by omega
  rw[wc0 d]at a;have f:zbb (l[k]::l.drop (k+1)) x k=if l[k]=x then(k:Int)else zbb (l.drop (k+1)) x (k+1):=rfl
  rw[f]at a;refine wac _ (atN d) (Waa (zfm _ x (j _ (wcm d)) i) waa.fst λb g=>?_);subst g;refine wab (λcb=>Tt.pure ?_) λcb=>wad ?_
  ·have cb:=wcd cb;rw[if_pos cb]at a;exact a.symm
  ·have cb:=wce cb;rw[if_neg cb]at a;rw[wI (by omega) (by omega)];exact e (l.length-(k+1)) _ (by omega) ⟨k+1,by omega,rfl,rfl,a⟩
 ·have c:=wce c;have:k=l.length:=by omega
  subst this;rw[a,wd3];rfl
theorem zwu{l:List Int}:jy l↔∀(i:Nat)(a b:Int),l[i]?=some a->l[i+1]?=some b->a<b:=by
 unfold jy;induction l with
 |nil=>simp
 |cons x l g=>
  rw[wd1,g];constructor
  ·rintro⟨j,d⟩ i a b c e;cases i with
   |zero=>simp at c;subst c;exact j b (wck (by simpa using e))
   |succ i=>exact d i a b (by simpa using c) (by simpa using e)
  ·intro h;have d:∀(i:Nat)(a b:Int),l[i]?=some a->l[i+1]?=some b->a<b:=λi a b c e=>h (i+1) a b (by simpa using c) (by simpa using e);refine⟨λy f=>?_,d⟩;have k:=g.2 d;cases l with
   |nil=>cases f
   |cons z l=>
    have m:=h 0 x z rfl rfl;rcases wc1.1 f with rfl|f
    ·exact m
    ·have:=(wd1.1 k).1 y f;omega
theorem z4b(l:List Int)(v:l.length<=1000000):Tn (λt=>zch t l) (λr=>r=true↔jy l):=by
 unfold zch;refine Tt.loop (λm s=>∃(k:Nat),m=l.length-k/\s=(l,((k+1:Nat):Int))/\∀(i:Nat)(a b:Int),i<k->l[i]?=some a->l[i+1]?=some b->a<b) l.length waa ⟨0,by omega,rfl,λi a b h=>by omega⟩ λm s⟨k,w,q,p⟩ x o=>?_;subst q;dsimp only;refine wab (λc=>?_) (λc=>Tt.pure ?_)
 ·have c:=wcd c;have f:k+1<l.length:=by omega
  have d:k<l.length:=by omega
  have e:T.w64 (((k+1:Nat):Int)-1)=(k:Int):=by rw[wI (by omega) (by omega)];omega
  rw[e];refine wac _ (atN d) (wac _ (atN f) (wab (λcb=>Tt.pure ?_) λcb=>wad ?_))
  ·have cb:=wcd cb;refine⟨λh=>(by cases h),λh=>?_⟩;have:=zwu.1 h k _ _ (wcf d) (wcf f);omega
  ·have cb:=wce cb;rw[wI (by omega) (by omega)];refine o (l.length-(k+1)) _ (by omega) ⟨k+1,rfl,by simp,λi a b u j g=>?_⟩;by_cases n:i<k
   ·exact p i a b n j g
   ·have:i=k:=by omega
    subst this;rw[wcf d]at j;rw[wcf f]at g;cases j;cases g;omega
 ·have c:=wce c;refine⟨λ_=>zwu.2 λi a b j g=>?_,λ_=>rfl⟩;have:=(wcg.1 g).1;exact p i a b (by omega) j g
def zrt(s:Arr 4 Int)(b:Nat):Int:=(s.l.getD (b / 64) 0).fdiv (2 ^ (min ((b % 64:Nat):Int).toNat 64))
def zfa(s:Arr 4 Int)(b:Nat):Bool:=decide (¬(zy9 .u64 (zrt s b) 1=0))
def hsB(n:jk)(b:Nat)(i:Int):Bool:=match n.1[i.toNat]? with
 |some s=>zfa s b
 |none=>false
theorem at4E(s:Arr 4 Int){k:Nat}(a:k<4):atL s.l (k:Int)=some (s.l.getD k 0):=by
 have:k<s.l.length:=by rw[s.2];exact a
 rw[atN this];simp[List.getD,this]
theorem shrE(s:Arr 4 Int)(b:Nat):zre .u64 (s.l.getD (b / 64) 0) ((b % 64:Nat):Int)=some (zrt s b):=by
 unfold zre zrt;rw[if_neg (by omega)];rfl
theorem z0i(n:jk)(A:n.1.length<=1000)(l:List Int)(t:RN n.1.length l)(b:Nat)(u:b<256):Tn (λy=>zcn y n l (b:Int)) (λr=>r=l.filter (hsB n b)):=by
 have v:=t.len;unfold zcn zf7;refine Tt.loop (λm s=>∃(k:Nat)(out:List Int),k<=l.length/\m=l.length-k/\s=((b:Int),l,(l.length:Int),(k:Int),n,out)/\out=(l.take k).filter (hsB n b)) l.length waa ⟨0,_,by omega,by omega,rfl,by simp⟩ λm s⟨k,out,B,i,p,g⟩ C j=>?_;subst p;dsimp only;refine wab (λc=>?_) (λc=>?_)
 ·have c:=wcd c;have d:k<l.length:=by omega
  have w:out.length<=k:=by
   rw[g];refine wdk (wen _ _) ?_;rw[wdl];omega
  have q:=wcn d;refine Tt.J (λs=>∃a,s=((b:Int),l,(l.length:Int),(k:Int),n,a)/\a=(l.take (k+1)).filter (hsB n b)) (λD f=>?_) λs⟨a,p,o⟩=>?_
  ·have x:=t.b _ (wcm d);refine wac _ (atN d) (wac _ (jke u) ?_);obtain⟨z,hz⟩:∃z:Nat,l[k]=(z:Int):=⟨(l[k]).toNat,by omega⟩
   rw[hz]at x q⊢;have h:z<n.1.length:=by omega
   refine wac _ (atN h) ?_;have i:hsB n b (z:Int)=zfa n.1[z] b:=by unfold hsB;rw[wcx,wcf h]
   refine wac _ (at4E n.1[z] (k:=b / 64) (by omega)) (wac _ (jdp b) (wac _ (shrE _ _) ?_));refine wab (λc=>?_) λc=>f _ ⟨_,rfl,?_⟩
   ·refine wac _ (yf (by simp;omega) (by omega)) (f _ ⟨_,rfl,?_⟩);have e:hsB n b (z:Int)=true:=i.trans c;rw[q,we7,<- g];simp[e]
   ·have e:hsB n b (z:Int)=false:=i.trans c;rw[q,we7,<- g];simp[e]
  ·subst p;refine wad ?_;dsimp only;rw[wI (by omega) (by omega)];exact j (l.length-(k+1)) _ (by omega) ⟨k+1,_,by omega,rfl,rfl,o⟩
 ·have c:=wce c;have:k=l.length:=by omega
  subst this;rw[wc2]at g;exact Tt.pure g
def zdl(s:Arr 4 Int):Prop:=∀k:Nat,0<=s.l.getD k 0/\s.l.getD k 0<18446744073709551616
theorem and1(m:Nat):zy9 .u64 (m:Int) 1=((m % 2:Nat):Int):=by
 unfold zy9;have a:(BitVec.ofInt IntKind.u64.bits (m:Int) &&& BitVec.ofInt IntKind.u64.bits 1).toNat=m % 2:=by
  show(BitVec.ofInt 64 (m:Int) &&& BitVec.ofInt 64 1).toNat=m % 2;have e:BitVec.ofInt 64 (1:Int)=1#64:=by decide
  rw[e,BitVec.ofInt_natCast,BitVec.toNat_and,BitVec.toNat_ofNat];show(m % 2 ^ 64) &&& 1=m % 2;rw[Nat.and_one_is_mod];omega
 rw[a,zcv (by omega) (by omega)]
theorem je0{s:Arr 4 Int}(a:zdl s)(b:Nat):∃m:Nat,zrt s b=(m:Int):=by
 unfold zrt;have h:=(a (b / 64)).1;obtain⟨w,c⟩:∃w:Nat,s.l.getD (b / 64) 0=(w:Int):=⟨(s.l.getD (b / 64) 0).toNat,by omega⟩
 rw[c];refine⟨w / 2 ^ (min ((b % 64:Nat):Int).toNat 64),?_⟩;rw[Int.fdiv_eq_ediv_of_nonneg _ (by exact_mod_cast wem _)];simp
theorem zl4(s:Arr 4 Int)(c:zdl s)(b:Nat)(g:b<256):Tn (λe=>Yk e s (b:Int)) (λr=>r=zfa s b):=by
 obtain⟨m,a⟩:=je0 c b;have q:zsd .i64 (b:Int) 64=some ((b / 64:Nat):Int):=by
  unfold zsd;rw[if_neg (by decide),show((b:Int)).tdiv 64=((b / 64:Nat):Int)from(Int.ofNat_tdiv b 64).symm,Z8 (by omega) (by omega)]
 have r:zp6 .u64 (b:Int) 64=some ((b % 64:Nat):Int):=jdp b;have f:zp6 .u64 (m:Int) 2=some ((m % 2:Nat):Int):=by
  unfold zp6;rw[if_neg (by decide),show((m:Int)).tmod 2=((m % 2:Nat):Int)from(Int.ofNat_tmod m 2).symm]
 have d:jw 4 ((b / 64:Nat):Int)=some ((b / 64:Nat):Int):=by
  unfold jw;rw[wc9 (by omega:(0:Int)<=((b / 64:Nat):Int))];dsimp only;rw[wcx,wc9 (by omega)]
 unfold Yk;rw[show wr .i64 (b:Int)=(b:Int)from Z8 (by omega) (by omega),show wr .u64 (b:Int)=(b:Int)from zcv (by omega) (by omega)];refine wac _ q (wac _ d (wac _ (at4E s (k:=b / 64) (by omega)) (wac _ r (wac _ (shrE s b) ?_))));rw[a];refine wac _ f (Tt.pure ?_);unfold zfa;rw[a,and1];exact wfo.2 (by omega)
theorem zw7(n:jk)(N:n.1.length<=1000)(K:∀s∈n.1,zdl s)(l i:List Int)(z:i.length<=1000000)(H:RN n.1.length l)(A:∀x,x∈l↔x∈i/\0<=x/\x<n.1.length)(b:Nat)(F:b<256):Tn (λL=>zd2 L n i (b:Int)) (λr=>r=l.filter (hsB n b)):=by
 unfold zd2 zhf;refine Tt.loop (λm s=>∃(k:Nat)(out:List Int),k<=n.1.length/\m=n.1.length-k/\s=(i,(b:Int),(k:Int),n,out)/\out.length<=k/\jy out/\∀x,x∈out↔x∈i/\0<=x/\x<(k:Int)/\hsB n b x=true) n.1.length waa ⟨0,_,by omega,by omega,rfl,by simp,List.Pairwise.nil,λx=>⟨λh=>(by cases h),λh=>by omega⟩⟩ λm s⟨k,out,O,P,g,D,w,t⟩ Q C=>?_;subst g;dsimp only;refine wab (λc=>?_) (λc=>?_)
 ·have c:=wcd c;have o:k<n.1.length:=by omega
  have B:hsB n b (k:Int)=zfa n.1[k] b:=by unfold hsB;rw[wcx,wcf o]
  refine Tt.J (λs=>∃out,s=(i,(b:Int),(k:Int),n,out)/\out.length<=k+1/\jy out/\∀x,x∈out↔x∈i/\0<=x/\x<((k+1:Nat):Int)/\hsB n b x=true) (λR u=>?_) λs⟨out,g,D,w,t⟩=>?_
  ·refine Tt.J (λs=>s=(i,(b:Int),(k:Int),decide ((k:Int)∈i/\hsB n b (k:Int)=true),n,out)) (λS v=>?_) λs g=>?_
   ·refine Waa (zbm i (k:Int) z) waa.fst λh G=>?_;subst G;refine wab (λc=>?_) λc=>v _ ?_
    ·have c:=wcd c;refine wac _ (atN o) (Waa (zl4 n.1[k] (K _ (wcm o)) b F) waa.fst λq I=>v _ ?_);subst I;rw[<- B];simp[c]
    ·have c:=wce c;simp[c]
   ·subst g;dsimp only;refine wab (λc=>?_) λc=>u _ ⟨out,rfl,by omega,w,λx=>?_⟩
    ·have c:=wcd c;refine wac _ (yf (by simp;omega) (by omega)) (u _ ⟨_,rfl,by simp;omega,?_,λx=>?_⟩)
     ·unfold jy;rw[wer];exact⟨w,by simp,λa E M y=>by rw[wci.1 y];exact((t a).1 E).2.2.1⟩
     ·rw[wco,t,wci];constructor
      ·rintro(⟨d,f,j,e⟩|rfl)
       ·exact⟨d,f,by omega,e⟩
       ·exact⟨c.1,by omega,by omega,c.2⟩
      ·rintro⟨d,f,j,e⟩;by_cases p:x=(k:Int)
       ·exact .inr p
       ·exact .inl ⟨d,f,by omega,e⟩
    ·have c:=wce c;rw[t];constructor
     ·rintro⟨d,f,j,e⟩;exact⟨d,f,by omega,e⟩
     ·rintro⟨d,f,j,e⟩;refine⟨d,f,?_,e⟩;by_cases p:x=(k:Int)
      ·subst p;exact absurd ⟨d,e⟩ c
      ·omega
  ·subst g;refine wad ?_;dsimp only;rw[wI (by omega) (by omega)];exact C (n.1.length-(k+1)) _ (by omega) ⟨k+1,out,by omega,rfl,rfl,D,w,t⟩
 ·have c:=wce c;have:k=n.1.length:=by omega
  subst this;refine Tt.pure (z4z w (H.r.filter _) λx=>?_);rw[t,wey,A];constructor
  ·rintro⟨d,f,j,e⟩;exact⟨⟨d,f,j⟩,e⟩
  ·rintro⟨⟨d,f,j⟩,e⟩;exact⟨d,f,j,e⟩
theorem jes(l:List Int)(t:l.length<=1000000):Tn (λq=>zdu q l) (λb=>b=true↔jy l):=by
 unfold zdu;have n:T.w64 ((l.length:Int)-1)=(l.length:Int)-1:=wI (by omega) (by omega);rw[n];refine Tt.loop (λm s=>∃k:Nat,k<=l.length/\m=l.length-k/\s=(l,(l.length:Int)-1,(k:Int))/\∀(i:Nat)(h:i+1<l.length),i<k->l[i]<l[i+1]) l.length waa ⟨0,by omega,by omega,rfl,λi f o=>by omega⟩ λm s⟨k,r,u,p,g⟩ v e=>?_;subst p;dsimp only;refine wab (λc=>?_) (λc=>Tt.pure ⟨λ_=>ris_of λi h=>g i h (by have:=wce c;omega),λ_=>rfl⟩);have c:=wcd c;have a:k+1<l.length:=by omega
 have j:T.w64 ((k:Int)+1)=((k+1:Nat):Int):=wI (by omega) (by omega);refine wac _ (atN (by omega)) ?_;rw[j];refine wac _ (atN a) (wab (λd=>Tt.pure ⟨λh=>(by cases h),λh=>?_⟩) λd=>wad ?_)
 ·have d:=wcd d;have:=wff.1 h k (k+1) (by omega) a (by omega);omega
 refine e (l.length-(k+1)) _ (by omega) ⟨k+1,by omega,rfl,rfl,λi f o=>?_⟩;by_cases h:i<k
 ·exact g i f h
 ·have:i=k:=by omega
  subst this;have:=wce d;omega
theorem z1d(N:Nat)(ls:List (List Int))(z:ls.length<=1000000)(w:∀x∈ls,x.length<=1000000):Tn (λy=>zaj y (N:Int) ls) (λb=>b=true↔∀x∈ls,RN N x):=by
 unfold zaj;refine Tt.loop (λm s=>∃k:Nat,k<=ls.length/\m=ls.length-k/\s=((N:Int),ls,(ls.length:Int),(k:Int))/\∀x∈ls.take k,RN N x) ls.length waa ⟨0,by omega,by omega,rfl,by simp⟩ λm s⟨k,A,B,p,l⟩ C o=>?_;subst p;dsimp only;refine wab (λc=>?_) (λc=>Tt.pure ⟨λ_=>?_,λ_=>rfl⟩)
 rotate_left
 ·have n:k=ls.length:=by have:=wce c;omega
  rw[n,wc2]at l;exact l
 have c:=wcd c;have d:k<ls.length:=by omega
 have g:=wcm d;have q:=w _ g;refine wac _ (atN d) ?_;refine Tt.J (λs=>∃b,s=((N:Int),ls,(ls.length:Int),(k:Int),b)/\(b=false↔RN N ls[k])) (λD a=>?_) λs⟨b,p,t⟩=>?_
 ·refine Waa (jes _ q) waa.fst λr f=>wad ?_;refine wab (λc=>a _ ⟨_,rfl,λh=>(by cases h),λh=>?_⟩) λc=>wad ?_
  ·have c:r=false:=by simpa using c
   have:=f.2 h.r;rw[c]at this;cases this
  have f:=f.1 (by simpa using c);refine wab (λj=>?_) λj=>a _ ⟨_,rfl,λh=>jov f λi=>by have:=wce j;omega,λ_=>rfl⟩;have i:0<(ls[k]).length:=by have:=wcd j;omega
  refine wac _ (atN i) (wad (wab (λe=>a _ ⟨_,rfl,λh=>(by cases h),λh=>?_⟩) λe=>?_))
  ·have e:=wcd e;have:=h.b _ (wcm i);omega
  have e:=wce e;have v:T.w64 (((ls[k]).length:Int)-1)=(((ls[k]).length-1:Nat):Int):=by rw[wI (by omega) (by omega)];omega
  rw[v];refine wac _ (atN (by omega)) (a _ ⟨_,rfl,λh=>jov f λi=>⟨by omega,?_⟩,λh=>wcw ?_⟩)
  ·have:=wce h;omega
  ·have:=h.b _ (wcm (show(ls[k]).length-1<(ls[k]).length by omega));omega
 ·subst p;dsimp only;refine wab (λc=>Tt.pure ⟨λh=>(by cases h),λh=>?_⟩) λc=>wad ?_
  ·have:=t.2 (h _ g);rw[c]at this;cases this
  rw[wI (by omega) (by omega)];refine o (ls.length-(k+1)) _ (by omega) ⟨k+1,by omega,rfl,rfl,λx u=>?_⟩;rw[wcn d]at u;rcases wco.1 u with h|h
  ·exact l x h
  ·rw[wci.1 h];exact t.1 c
theorem zrp(n:jk)(v:n.1.length<=1000000)(l:List Int)(q:l.length<=1000000):Tn (λu=>Zl u n l) (λb=>b=true↔RN n.1.length l):=by
 unfold Zl;refine Tt.loop (λm s=>∃k:Nat,k<=l.length/\m=l.length-k/\s=(l,(k:Int),n)/\∀x∈l.take k,0<=x/\x<(n.1.length:Int)) l.length waa ⟨0,by omega,by omega,rfl,by simp⟩ λm s⟨k,w,y,i,e⟩ z g=>?_;subst i;dsimp only;refine wab (λc=>?_) (λc=>?_)
 ·have c:=wcd c;have a:k<l.length:=by omega
  have j:=wcm a;refine Tt.J (λs=>∃b,s=(l,(k:Int),b,n)/\(b=false↔0<=l[k]/\l[k]<(n.1.length:Int))) (λA d=>?_) λs⟨b,i,o⟩=>?_
  ·refine wac _ (atN a) (wad (wab (λc=>d _ ⟨_,rfl,?_⟩) λc=>wac _ (atN a) (d _ ⟨_,rfl,?_⟩)))
   ·have c:=wcd c;exact⟨λh=>(by cases h),λh=>by omega⟩
   ·have c:=wce c;rw[decide_eq_false_iff_not];omega
  ·subst i;dsimp only;refine wab (λc=>Tt.pure ⟨λh=>(by cases h),λh=>?_⟩) λc=>wad ?_
   ·have:=o.2 (h.b _ j);rw[c]at this;cases this
   rw[wI (by omega) (by omega)];refine g (l.length-(k+1)) _ (by omega) ⟨k+1,by omega,rfl,rfl,λx p=>?_⟩;rw[wcn a]at p;rcases wco.1 p with h|h
   ·exact e x h
   ·rw[wci.1 h];exact o.1 c
 ·have f:k=l.length:=by have:=wce c;omega
  rw[f,wc2]at e;exact Waa (z4b l q) waa.fst λr t=>Tt.pure (t.trans ⟨λh=>⟨h,e⟩,λh=>h.r⟩)
structure z4d(n:jk):Prop extends NetOk n where
 p:∀o∈n.2.1,0<=o
theorem zkm(n:jk){N:Nat}(D:N<=1000)(hz:ziq N 60000 n):Tn (λB=>Q9 B n) (λb=>b=true↔z4d n):=by
 have I:=hz.s;have K:=hz.o;have L:=hz.l;have M:=hz.f;have O:=hz.fi;unfold Q9;refine wad ?_;refine Tt.J (λs=>∃b,s=((n.1.length:Int),b,n)/\(b=false↔n.2.1.length=n.1.length/\n.2.2.1.length=n.1.length/\n.2.2.2.1.length=n.1.length)) (λC a=>?_) λs⟨b,q,v⟩=>?_
 ·refine wad (wab (λc=>a _ ⟨_,rfl,λh=>(by cases h),λh=>?_⟩) λc=>wab (λg=>a _ ⟨_,rfl,λh=>(by cases h),λh=>?_⟩) λg=>a _ ⟨_,rfl,?_⟩)
  ·have c:=wcd c;omega
  ·have g:=wcd g;omega
  ·have c:=wce c;have g:=wce g;rw[decide_eq_false_iff_not];omega
 ·subst q;dsimp only;refine wab (λc=>Tt.pure ⟨λh=>(by cases h),λh=>?_⟩) λc=>?_
  ·have:=v.2 ⟨h.o,h.l,h.f⟩;rw[c]at this;cases this
  obtain⟨y,z,A⟩:=v.1 c;refine Tt.loop (λm s=>∃k:Nat,k<=n.2.1.length/\m=n.2.1.length-k/\s=((n.1.length:Int),n.2.1,(n.2.1.length:Int),(k:Int),n)/\∀o∈n.2.1.take k,0<=o) n.2.1.length waa ⟨0,by omega,by omega,rfl,by simp⟩ λm s⟨k,E,F,q,t⟩ C a=>?_;subst q;dsimp only;refine wab (λc=>?_) (λc=>?_)
  ·have c:=wcd c;have e:k<n.2.1.length:=by omega
   refine wac _ (atN e) (wab (λc=>Tt.pure ⟨λh=>(by cases h),λh=>?_⟩) λc=>wad ?_)
   ·have c:=wcd c;have:=h.p _ (wcm e);omega
   rw[wI (by omega) (by omega)];refine a (n.2.1.length-(k+1)) _ (by omega) ⟨k+1,by omega,rfl,rfl,λx d=>?_⟩;rw[wcn e]at d;rcases wco.1 d with h|h
   ·exact t x h
   ·rw[wci.1 h];have:=wce c;omega
  ·have u:k=n.2.1.length:=by have:=wce c;omega
   rw[u,wc2]at t;refine Tt.J (λb=>b=true↔z4d n) (λG i=>?_) λs q=>Tt.pure q;refine Waa (z1d n.1.length [n.2.2.2.2.1] (by simp) (λx d=>by rw[wci.1 d];omega)) waa.fst λr w=>?_;refine wab (λc=>?_) λc=>i _ ⟨λh=>(by cases h),λh=>?_⟩
   ·refine Waa (z1d n.1.length n.2.2.2.1 (by omega) (λx d=>by have:=hz.fr x d;omega)) waa.fst λH j=>?_;exact i _ ⟨λh=>⟨⟨y,z,A,w.1 c _ (by simp),j.1 h⟩,t⟩,λh=>j.2 h.fo⟩
   ·have:=w.2 λx d=>by rw[wci.1 d];exact h.fi
    rw[c]at this;cases this
theorem zaf(n:jk){N:Nat}(K:N<=1000)(hz:ziq N 60000 n):Tn (λH=>Ql H n) (λb=>b=true↔z4d n):=by
 have P:=hz.s;have Q:=hz.o;have R:=hz.l;have S:=hz.f;have T:=hz.fi;unfold Ql;refine Tt.J (λs=>∃b,s=(b,n)/\(b=false↔n.2.1.length=n.1.length/\n.2.2.1.length=n.1.length/\n.2.2.2.1.length=n.1.length/\RN n.1.length n.2.2.2.2.1)) (λI a=>?_) λs⟨b,u,j⟩=>?_
 ·refine wad (wab (λc=>a _ ⟨_,rfl,λh=>(by cases h),λh=>?_⟩) λc=>wab (λg=>a _ ⟨_,rfl,λh=>(by cases h),λh=>?_⟩) λg=>wab (λi=>a _ ⟨_,rfl,λh=>(by cases h),λh=>?_⟩) λi=>?_)
  ·have c:=wcd c;omega
  ·have g:=wcd g;omega
  ·have i:=wcd i;omega
  ·have c:=wce c;have g:=wce g;have i:=wce i;refine Waa (zrp n (by omega) _ (by omega)) waa λr t=>a _ ⟨_,rfl,?_⟩;constructor
   ·intro h;exact⟨by omega,by omega,by omega,t.1 (by simpa using h)⟩
   ·intro h;rw[t.2 h.2.2.2];rfl
 ·subst u;dsimp only;refine wab (λc=>Tt.pure ⟨λh=>(by cases h),λh=>?_⟩) λc=>?_
  ·have:=j.2 ⟨h.o,h.l,h.f,h.fi⟩;rw[c]at this;cases this
  obtain⟨B,C,D,E⟩:=j.1 c;refine Tt.loop (λm s=>∃k:Nat,k<=n.1.length/\m=n.1.length-k/\s=((k:Int),n)/\(∀o∈n.2.1.take k,0<=o)/\∀x∈n.2.2.2.1.take k,RN n.1.length x) n.1.length waa ⟨0,by omega,by omega,rfl,by simp,by simp⟩ λm s⟨k,L,M,u,w,y⟩ I a=>?_;subst u;dsimp only;refine wab (λc=>?_) (λc=>?_)
  ·have c:=wcd c;have G:k<n.1.length:=by omega
   have e:k<n.2.1.length:=by omega
   have d:k<n.2.2.2.1.length:=by omega
   refine Tt.J (λs=>∃b,s=((k:Int),b,n)/\(b=false↔0<=n.2.1[k]/\RN n.1.length n.2.2.2.1[k])) (λO q=>?_) λs⟨b,u,j⟩=>?_
   ·refine wac _ (atN e) (wad (wab (λc=>q _ ⟨_,rfl,λh=>(by cases h),λh=>?_⟩) λc=>?_))
    ·have c:=wcd c;omega
    ·have c:=wce c;refine wac _ (atN d) (Waa (zrp n (by omega) _ (by have:=hz.fr _ (wcm d);omega)) waa.fst λr t=>q _ ⟨_,rfl,?_⟩);constructor
     ·intro h;exact⟨by omega,t.1 (by simpa using h)⟩
     ·intro h;rw[t.2 h.2];rfl
   ·subst u;dsimp only;refine wab (λc=>Tt.pure ⟨λh=>(by cases h),λh=>?_⟩) λc=>wad ?_
    ·have:=j.2 ⟨h.p _ (wcm e),h.fo _ (wcm d)⟩;rw[c]at this;cases this
    obtain⟨z,A⟩:=j.1 c;rw[wI (by omega) (by omega)];refine a (n.1.length-(k+1)) _ (by omega) ⟨k+1,by omega,rfl,rfl,λx v=>?_,λx v=>?_⟩
    ·rw[wcn e]at v;rcases wco.1 v with h|h
     ·exact w x h
     ·rw[wci.1 h];exact z
    ·rw[wcn d]at v;rcases wco.1 v with h|h
     ·exact y x h
     ·rw[wci.1 h];exact A
  ·have F:k=n.1.length:=by have:=wce c;omega
   rw[show k=n.2.1.length by omega,wc2]at w;rw[show k=n.2.2.2.1.length by omega,wc2]at y;exact Tt.pure ⟨λ_=>⟨⟨B,C,D,E,y⟩,w⟩,λ_=>rfl⟩
open Classical in
def zby(n:jk)(b:Nat):List Int:=if z4d n then n.2.2.2.2.1.filter (hsB n b)else []
theorem jjb(n:jk){N:Nat}(d:N<=1000)(hz:ziq N 60000 n)(b:Nat)(e:b<256):Tn (λf=>zap f n (b:Int)) (λr=>r=zby n b):=by
 have g:=hz.s;unfold zap;refine Waa (zkm n d hz) waa λr a=>?_;refine wab (λc=>Tt.pure ?_) λc=>?_
 ·have c:r=false:=by simpa using c
  unfold zby;rw[if_neg λh=>by rw[a.2 h]at c;cases c]
 ·have h:=a.1 (by simpa using c);refine Waa (z0i n (by omega) _ h.fi b e) waa λr a=>Tt.pure ?_;unfold zby;rw[if_pos h,a]
theorem z77(n:jk){N:Nat}(e:N<=1000)(hz:ziq N 60000 n)(g:∀s∈n.1,zdl s)(b:Nat)(f:b<256):Tn (λi=>Zi i n (b:Int)) (λr=>r=zby n b):=by
 have j:=hz.s;have k:=hz.fi;unfold Zi;refine Waa (zaf n e hz) waa λr a=>?_;refine wab (λc=>Tt.pure ?_) λc=>?_
 ·have c:r=false:=by simpa using c
  unfold zby;rw[if_neg λh=>by rw[a.2 h]at c;cases c]
 ·have h:=a.1 (by simpa using c);refine Waa (zw7 n (by omega) g _ _ (by omega) h.fi (λx=>⟨λd=>⟨d,h.fi.b x d⟩,λd=>d.1⟩) b f) waa λr a=>Tt.pure ?_;unfold zby;rw[if_pos h,a]
open Classical in
def z3z(N:Nat)(p:Int->Prop):List Int:=((List.range N).map λ(i:Nat)=>(i:Int)).filter λx=>decide (p x)
theorem zg2{N:Nat}{p:Int->Prop}{x:Int}:x∈z3z N p↔0<=x/\x<(N:Int)/\p x:=by
 unfold z3z;simp only[wey,wcz,wcy];constructor
 ·rintro⟨⟨i,b,rfl⟩,h⟩;have:=wef.1 b;exact⟨by omega,by omega,h⟩
 ·rintro⟨c,d,a⟩;exact⟨⟨x.toNat,wef.2 (by omega),by omega⟩,a⟩
theorem zx0{N:Nat}{p:Int->Prop}:jy (z3z N p):=by
 unfold z3z jy;refine List.Pairwise.filter _ ?_;rw[List.pairwise_map];exact List.pairwise_lt_range.imp λh=>by omega
def ztj(n:jk)(l:List Int)(x:Int):Prop:=∃i∈l,0<=i/\i<(n.1.length:Int)/\x∈n.2.2.2.1.getD i.toNat []
open Classical in
def zgs(n:jk)(l:List Int)(b:Nat):List Int:=if z4d n then(z3z n.1.length (ztj n l)).filter (hsB n b)else []
theorem zkk{n:jk}{l:List Int}{k:Nat}(c:k<l.length){x:Int}:ztj n (l.take (k+1)) x↔ztj n (l.take k) x\/(0<=l[k]/\l[k]<(n.1.length:Int)/\x∈n.2.2.2.1.getD l[k].toNat []):=by
 unfold ztj;rw[wcn c];constructor
 ·rintro⟨i,b,h⟩;rcases wco.1 b with a|a
  ·exact .inl ⟨i,a,h⟩
  ·rw[wci.1 a]at h;exact .inr h
 ·rintro(⟨i,b,h⟩|h)
  ·exact⟨i,wco.2 (.inl b),h⟩
  ·exact⟨_,wco.2 (.inr (wci.2 rfl)),h⟩
theorem on_ex(n:jk){N:Nat}(P:N<=1000)(hz:ziq N 60000 n)(w:NetOk n)(l:List Int)(R:l.length<=1000000)(b:Nat)(K:b<256):Tn (λO=>zri O n l (b:Int)) (λr=>r=(z3z n.1.length (ztj n l)).filter (hsB n b)):=by
 have W:=hz.s;have X:=hz.f;have Y:=w.f;unfold zri zpx;refine Tt.loop (λm s=>∃(k:Nat)(j:List Int),k<=l.length/\m=l.length-k/\s=((b:Int),j,l,(l.length:Int),(k:Int),n)/\RN n.1.length j/\∀x,x∈j↔ztj n (l.take k) x) l.length waa ⟨0,_,by omega,by omega,rfl,RN.nil _,λx=>⟨λh=>(by cases h),λ⟨i,L,_⟩=>(by cases L)⟩⟩ λm s⟨k,j,Q,S,y,o,A⟩ T E=>?_;subst y;dsimp only;refine wab (λc=>?_) (λc=>Waa (z0i n (by omega) _ o b K) waa.fst λr M=>Tt.pure ?_)
 rotate_left
 ·have D:k=l.length:=by have:=wce c;omega
  rw[D,wc2]at A;have e:j=z3z n.1.length (ztj n l):=z4z o.r zx0 λx=>by
   rw[zg2];exact⟨λh=>⟨(o.b x h).1,(o.b x h).2,(A x).1 h⟩,λh=>(A x).2 h.2.2⟩
  rw[M,e]
 have c:=wcd c;have d:k<l.length:=by omega
 refine Tt.J (λs=>∃a,s=((b:Int),a,l,(l.length:Int),(k:Int),n)/\RN n.1.length a/\∀x,x∈a↔ztj n (l.take (k+1)) x) (λU t=>?_) λs⟨a,y,C,F⟩=>?_
 ·refine wac _ (atN d) ?_;refine Tt.J (λs=>∃B,s=((b:Int),j,l[k],l,(l.length:Int),(k:Int),B,n)/\(B=true↔0<=l[k]/\l[k]<(n.2.2.2.1.length:Int))) (λV v=>?_) λs⟨B,y,p⟩=>?_
  ·refine wad (wab (λc=>v _ ⟨_,rfl,λh=>⟨wcd c,wcd h⟩,λh=>wc9 h.2⟩) λc=>v _ ⟨_,rfl,λh=>(by cases h),λh=>absurd h.1 (wce c)⟩)
  ·subst y;dsimp only;refine wab (λc=>?_) λc=>t _ ⟨_,rfl,o,λx=>?_⟩
   ·obtain⟨h0,H⟩:=p.1 c;obtain⟨z,hz⟩:∃z:Nat,l[k]=(z:Int):=⟨(l[k]).toNat,by omega⟩
    have q:=λx=>zkk (n:=n) d (x:=x);rw[hz]at H q⊢;have g:z<n.2.2.2.1.length:=by omega
    refine wac _ (atN g) (Waa (zmb (by omega) o (w.fo _ (wcm g))) waa.fst λu G=>?_);refine t _ ⟨_,rfl,G.1,λx=>?_⟩;rw[G.2,A,q];have:n.2.2.2.1.getD ((z:Int)).toNat []=n.2.2.2.1[z]:=by simp[List.getD,g]
    rw[this];exact or_congr Iff.rfl ⟨λh=>⟨by omega,by omega,h⟩,λh=>h.2.2⟩
   ·rw[A,zkk d];refine⟨.inl,λh=>h.resolve_right λI=>?_⟩;have:=p.2 ⟨I.1,by omega⟩;rw[c]at this;cases this
 ·subst y;refine wad ?_;dsimp only;rw[wI (by omega) (by omega)];exact E (l.length-(k+1)) _ (by omega) ⟨k+1,_,by omega,rfl,rfl,C,F⟩
theorem jnj(n:jk){N:Nat}(d:N<=1000)(hz:ziq N 60000 n)(l:List Int)(f:l.length<=1000000)(b:Nat)(e:b<256):Tn (λg=>zcw g n l (b:Int)) (λr=>r=zgs n l b):=by
 unfold zcw;refine Waa (zkm n d hz) waa λr a=>?_;refine wab (λc=>Tt.pure ?_) λc=>?_
 ·have c:r=false:=by simpa using c
  unfold zgs;rw[if_neg λh=>by rw[a.2 h]at c;cases c]
 ·have h:=a.1 (by simpa using c);refine Waa (on_ex n d hz h.toNetOk l f b e) waa λr a=>Tt.pure ?_;unfold zgs;rw[if_pos h,a]
theorem z93(n:jk){N:Nat}(I:N<=1000)(hz:ziq N 60000 n)(O:∀s∈n.1,zdl s)(l:List Int)(S:l.length<=1000)(b:Nat)(K:b<256):Tn (λP=>zax P n l (b:Int)) (λr=>r=zgs n l b):=by
 have X:=hz.s;have Y:=hz.f;unfold zax;refine Waa (zaf n I hz) waa λr u=>?_;refine wab (λc=>Tt.pure ?_) λc=>?_
 ·have c:r=false:=by simpa using c
  unfold zgs;rw[if_neg λh=>by rw[u.2 h]at c;cases c]
 have G:=u.1 (by simpa using c);have Z:=G.f;refine Tt.loop (λm s=>∃(k:Nat)(j:List Int),k<=l.length/\m=l.length-k/\s=(l,(b:Int),(k:Int),n,j)/\j.length<=512*k/\∀x,x∈j↔ztj n (l.take k) x) l.length waa ⟨0,_,by omega,by omega,rfl,by simp,λx=>⟨λh=>(by cases h),λ⟨i,L,_⟩=>(by cases L)⟩⟩ λm s⟨k,j,R,T,d,Q,v⟩ U C=>?_;subst d;dsimp only;refine wab (λc=>?_) (λc=>?_)
 rotate_left
 ·have B:k=l.length:=by have:=wce c;omega
  rw[B,wc2]at v;have y:RN n.1.length (z3z n.1.length (ztj n l)):=⟨zx0,λx h=>⟨(zg2.1 h).1,(zg2.1 h).2.1⟩⟩
  refine Waa (zw7 n (by omega) O _ j (by omega) y (λx=>?_) b K) waa.fst λr u=>Tt.pure ?_
  ·rw[zg2,v];exact⟨λh=>⟨h.2.2,h.1,h.2.1⟩,λh=>⟨h.2.1,h.2.2,h.1⟩⟩
  ·unfold zgs;rw[if_pos G,u]
 have c:=wcd c;have a:k<l.length:=by omega
 refine Tt.J (λs=>∃e,s=(l,(b:Int),(k:Int),n,e)/\e.length<=512*(k+1)/\∀x,x∈e↔ztj n (l.take (k+1)) x) (λV q=>?_) λs⟨e,d,A,D⟩=>?_
 ·refine Tt.J (λs=>∃w,s=(l,(b:Int),(k:Int),w,n,j)/\(w=true↔0<=l[k]/\l[k]<(n.1.length:Int))) (λW t=>?_) λs⟨w,d,o⟩=>?_
  ·refine wac _ (atN a) (wad (wab (λc=>wac _ (atN a) (t _ ⟨_,rfl,λh=>⟨wcd c,wcd h⟩,λh=>wc9 h.2⟩)) λc=>t _ ⟨_,rfl,λh=>(by cases h),λh=>absurd h.1 (wce c)⟩))
  ·subst d;dsimp only;refine wab (λc=>?_) λc=>q _ ⟨_,rfl,by omega,λx=>?_⟩
   ·obtain⟨h0,H⟩:=o.1 c;refine wac _ (atN a) ?_;obtain⟨z,E⟩:∃z:Nat,l[k]=(z:Int):=⟨(l[k]).toNat,by omega⟩
    have p:=λx=>zkk (n:=n) a (x:=x);rw[E]at H p⊢;have g:z<n.2.2.2.1.length:=by omega
    have M:=hz.fr _ (wcm g);refine wac _ (atN g) (wac _ (yf (by omega) (by omega)) (q _ ⟨_,rfl,by rw[wcu];omega,λx=>?_⟩));rw[wco,v,p];have:n.2.2.2.1.getD ((z:Int)).toNat []=n.2.2.2.1[z]:=by simp[List.getD,g]
    rw[this];exact or_congr Iff.rfl ⟨λh=>⟨by omega,by omega,h⟩,λh=>h.2.2⟩
   ·rw[v,zkk a];refine⟨.inl,λh=>h.resolve_right λF=>?_⟩;have:=o.2 ⟨F.1,F.2.1⟩;rw[c]at this;cases this
 ·subst d;refine wad ?_;dsimp only;rw[wI (by omega) (by omega)];exact C (l.length-(k+1)) _ (by omega) ⟨k+1,_,by omega,rfl,rfl,A,D⟩
def ze9(n:jk)(t i:Int):Int:=if 0<=i/\i<(n.1.length:Int)/\n.2.2.1.getD i.toNat false=true then(if t<0 then n.2.1.getD i.toNat 0 else min t (n.2.1.getD i.toNat 0))else t
open Classical in
def zkz(n:jk)(l:List Int):Int:=if z4d n then l.foldl (ze9 n) (-1)else -1
theorem z0s{n:jk}{l:List Int}{k:Nat}(a:k<l.length):(l.take (k+1)).foldl (ze9 n) (-1)=ze9 n ((l.take k).foldl (ze9 n) (-1)) l[k]:=by
 rw[wcn a,wej];rfl
theorem jhb(n:jk){N:Nat}(hN:N<=1000)(hz:ziq N 60000 n)(l:List Int)(hl:l.length<=1000000):Tn (λnn=>zdv nn n l) (λr=>r=zkz n l):=by
 unfold zdv;refine Tt.bind (Tt.call (zkm n hN hz) waa) λr hr=>?_;refine wab (λc=>Tt.pure ?_) λc=>?_
 ·have c:r=false:=by simpa using c
  unfold zkz;rw[if_neg λh=>by rw[hr.2 h]at c;cases c]
 have hok:=hr.1 (by simpa using c);have e1:=hok.o;have e2:=hok.l;unfold zkz;rw[if_pos hok];refine Tt.loop (λm s=>∃(k:Nat)(t:Int),k<=l.length/\m=l.length-k/\s=(t,l,(l.length:Int),(k:Int),n)/\t=(l.take k).foldl (ze9 n) (-1)) l.length waa ⟨0,_,by omega,by omega,rfl,rfl⟩ λm s⟨k,t,hk,hm,hs,ht⟩ nx hnx=>?_;subst hs;dsimp only;refine wab (λc=>?_) (λc=>Tt.pure ?_)
 rotate_left
 ·have hke:k=l.length:=by have:=wce c;omega
  rw[hke,wc2]at ht;exact ht
 have c:=wcd c;have hlt:k<l.length:=by omega
 have hstep:=z0s (n:=n) hlt;rw[<- ht]at hstep;refine Tt.J (λs=>s=(ze9 n t l[k],l,(l.length:Int),(k:Int),n)) (λny hny=>?_) λs hs=>?_
 ·refine wac _ (atN hlt) ?_;refine Tt.J (λs=>∃bb,s=(t,l[k],l,(l.length:Int),(k:Int),bb,n)/\(bb=false↔0<=l[k]/\l[k]<(n.1.length:Int)/\n.2.2.1.getD l[k].toNat false=true)) (λnz hnz=>?_) λs⟨bb,hs,hbb⟩=>?_
  ·refine wad (wab (λc=>hnz _ ⟨_,rfl,λh=>(by cases h),λh=>?_⟩) λc=>wab (λc2=>hnz _ ⟨_,rfl,λh=>(by cases h),λh=>?_⟩) λc2=>?_)
   ·have:=wcd c;omega
   ·have:=wcd c2;omega
   have c:=wce c;have c2:=wce c2;have hr:0<=l[k]/\l[k]<(n.1.length:Int):=by omega
   obtain⟨z,hz⟩:∃z:Nat,l[k]=(z:Int):=⟨(l[k]).toNat,by omega⟩
   have hzl:z<n.2.2.1.length:=by omega
   have ha:atL n.2.2.1 l[k]=some (n.2.2.1[z]'hzl):=by rw[hz];exact atN hzl
   have hg:n.2.2.1.getD l[k].toNat false=n.2.2.1[z]:=by rw[hz];simp[List.getD,hzl]
   refine wac _ ha (hnz _ ⟨_,rfl,?_⟩);rw[hg];constructor
   ·intro h;exact⟨hr.1,hr.2,by simpa using h⟩
   ·intro h;rw[h.2.2];rfl
  ·subst hs;dsimp only;refine wab (λc=>hny _ ?_) λc=>?_
   ·have:¬(0<=l[k]/\l[k]<(n.1.length:Int)/\n.2.2.1.getD l[k].toNat false=true):=λh=>by
     have:=hbb.2 h;rw[c]at this;cases this
    unfold ze9;rw[if_neg this]
   have hr:=hbb.1 c;obtain⟨z,hz⟩:∃z:Nat,l[k]=(z:Int):=⟨(l[k]).toNat,by omega⟩
   have hzl:z<n.2.1.length:=by omega
   have ha:atL n.2.1 l[k]=some (n.2.1[z]'hzl):=by rw[hz];exact atN hzl
   have hg:n.2.1.getD l[k].toNat 0=n.2.1[z]:=by rw[hz];simp[List.getD,hzl]
   have hF:ze9 n t l[k]=if t<0 then n.2.1[z]else min t n.2.1[z]:=by unfold ze9;rw[if_pos hr,hg]
   refine Tt.J (λs=>s=(if t<0 then n.2.1[z]else t,l[k],l,(l.length:Int),(k:Int),n)) (λnz hnz=>?_) λs hs=>?_
   ·refine wab (λc=>wac _ ha (hnz _ ?_)) λc=>hnz _ ?_
    ·rw[if_pos (wcd c)]
    ·rw[if_neg (wce c)]
   ·subst hs;refine wac _ ha (wad (hny _ ?_));rw[hF];dsimp only;by_cases h:t<0
    ·simp[h]
    ·simp[h]
 ·subst hs;refine wad ?_;dsimp only;rw[wI (by omega) (by omega)];exact hnx (l.length-(k+1)) _ (by omega) ⟨k+1,_,by omega,rfl,rfl,hstep.symm⟩
theorem z7q(n:jk){N:Nat}(hN:N<=1000)(hz:ziq N 60000 n)(l:List Int)(hl:l.length<=1000000):Tn (λnn=>zb9 nn n l) (λr=>r=zkz n l):=by
 unfold zb9;refine Tt.bind (Tt.call (zaf n hN hz) waa) λr hr=>?_;refine wab (λc=>Tt.pure ?_) λc=>?_
 ·have c:r=false:=by simpa using c
  unfold zkz;rw[if_neg λh=>by rw[hr.2 h]at c;cases c]
 have hok:=hr.1 (by simpa using c);have e1:=hok.o;have e2:=hok.l;unfold zkz;rw[if_pos hok];refine Tt.loop (λm s=>∃(k:Nat)(t:Int),k<=l.length/\m=l.length-k/\s=(l,t,(k:Int),n)/\t=(l.take k).foldl (ze9 n) (-1)) l.length waa ⟨0,_,by omega,by omega,rfl,rfl⟩ λm s⟨k,t,hk,hm,hs,ht⟩ nx hnx=>?_;subst hs;dsimp only;refine wab (λc=>?_) (λc=>Tt.pure ?_)
 rotate_left
 ·have hke:k=l.length:=by have:=wce c;omega
  rw[hke,wc2]at ht;exact ht
 have c:=wcd c;have hlt:k<l.length:=by omega
 have hstep:=z0s (n:=n) hlt;rw[<- ht]at hstep;refine Tt.J (λs=>s=(l,ze9 n t l[k],(k:Int),n)) (λny hny=>?_) λs hs=>?_
 ·refine Tt.J (λs=>∃bb,s=(l,t,(k:Int),bb,n)/\(bb=true->0<=l[k]/\l[k]<(n.1.length:Int)/\ze9 n t l[k]=n.2.1.getD l[k].toNat 0)/\(bb=false->ze9 n t l[k]=t)) (λnz hnz=>?_) λs⟨bb,hs,hbt,hbf⟩=>?_
  ·have hno:¬(0<=l[k]/\l[k]<(n.1.length:Int)/\n.2.2.1.getD l[k].toNat false=true)->ze9 n t l[k]=t:=λh=>by unfold ze9;rw[if_neg h]
   refine wac _ (atN hlt) (wad (wab (λc=>?_) λc=>hnz _ ⟨_,rfl,λh=>(by cases h),λ_=>hno λh=>absurd h.1 (wce c)⟩));refine wac _ (atN hlt) (wab (λc2=>?_) λc2=>hnz _ ⟨_,rfl,λh=>(by cases h),λ_=>hno λh=>absurd h.2.1 (wce c2)⟩);have c:=wcd c;have c2:=wcd c2;obtain⟨z,hz⟩:∃z:Nat,l[k]=(z:Int):=⟨(l[k]).toNat,by omega⟩
   have hzl:z<n.2.2.1.length:=by omega
   have hzo:z<n.2.1.length:=by omega
   have ha:atL n.2.2.1 l[k]=some (n.2.2.1[z]'hzl):=by rw[hz];exact atN hzl
   have hao:atL n.2.1 l[k]=some (n.2.1[z]'hzo):=by rw[hz];exact atN hzo
   have hg:n.2.2.1.getD l[k].toNat false=n.2.2.1[z]:=by rw[hz];simp[List.getD,hzl]
   have hgo:n.2.1.getD l[k].toNat 0=n.2.1[z]:=by rw[hz];simp[List.getD,hzo]
   refine wac _ (atN hlt) (wac _ ha (wab (λc3=>?_) λc3=>hnz _ ⟨_,rfl,λh=>(by cases h),λ_=>hno λh=>?_⟩))
   ·have hF:ze9 n t l[k]=if t<0 then n.2.1[z]else min t n.2.1[z]:=by unfold ze9;rw[if_pos ⟨c,c2,hg.trans c3⟩,hgo]
    refine wad (wab (λc4=>hnz _ ⟨_,rfl,λ_=>⟨c,c2,by rw[hF,hgo,if_pos (wcd c4)]⟩,λh=>by cases h⟩) λc4=>?_);have c4:=wce c4;rw[if_neg c4]at hF;refine wac _ (atN hlt) (wac _ hao (hnz _ ⟨_,rfl,λh=>⟨c,c2,?_⟩,λh=>?_⟩))
    ·rw[hF,hgo];have:=wcd h;omega
    ·rw[hF];have:=wce h;omega
   ·have:=h.2.2;rw[hg,c3]at this;cases this
  ·subst hs;dsimp only;refine wab (λc=>?_) λc=>hny _ (by rw[hbf c]);obtain⟨h1,h2,h3⟩:=hbt c;obtain⟨z,hz⟩:∃z:Nat,l[k]=(z:Int):=⟨(l[k]).toNat,by omega⟩
   have hzo:z<n.2.1.length:=by omega
   have hao:atL n.2.1 l[k]=some (n.2.1[z]'hzo):=by rw[hz];exact atN hzo
   have hgo:n.2.1.getD l[k].toNat 0=n.2.1[z]:=by rw[hz];simp[List.getD,hzo]
   exact wac _ (atN hlt) (wac _ hao (hny _ (by rw[h3,hgo])))
 ·subst hs;refine wad ?_;dsimp only;rw[wI (by omega) (by omega)];exact hnx (l.length-(k+1)) _ (by omega) ⟨k+1,_,by omega,rfl,rfl,hstep.symm⟩
def qm(E:Nat->Nat->Bool):Nat->List Nat
 |0=>[]
 |k+1=>if(qm E k).any (E · k)then qm E k else qm E k++[k]
def cls(E:Nat->Nat->Bool)(b:Nat):Nat:=(qm E 256).findIdx (E · b)
structure Eqv(E:Nat->Nat->Bool):Prop where
 r:∀a,E a a=true
 s:∀a b,E a b=E b a
 t:∀a b c,E a b=true->E a c=E b c
theorem zg6{E:Nat->Nat->Bool}(h:Eqv E):∀{k b:Nat},b<k->∃a∈qm E k,E a b=true
 |0,b,g=>by omega
 |k+1,b,g=>by
  unfold qm;by_cases f:b<k
  ·obtain⟨a,d,e⟩:=zg6 h f;split
   ·exact⟨a,d,e⟩
   ·exact⟨a,wco.2 (.inl d),e⟩
  ·have:b=k:=by omega
   subst this;split
   ·rename_i c;obtain⟨a,d,e⟩:=wep.1 c;exact⟨a,d,e⟩
   ·exact⟨b,by simp,h.r b⟩
theorem zvv{E:Nat->Nat->Bool}(k:Nat):∀d,∃t,qm E (k+d)=qm E k++t
 |0=>⟨[],by simp⟩
 |d+1=>by
  obtain⟨t,a⟩:=zvv (E:=E) k d;have e:qm E (k+(d+1))=if(qm E (k+d)).any (E · (k+d))then qm E (k+d)else qm E (k+d)++[k+d]:=rfl
  rw[e];split
  ·exact⟨t,a⟩
  ·exact⟨t++[k+d],by rw[a,wc6]⟩
theorem jhc{E:Nat->Nat->Bool}(h:Eqv E){k b:Nat}(e:b<k)(g:k<=256):(qm E k).findIdx (E · b)=cls E b:=by
 obtain⟨t,c⟩:=zvv (E:=E) k (256-k);rw[show k+(256-k)=256 by omega]at c;unfold cls;rw[c,List.findIdx_append,if_pos];obtain⟨a,d,f⟩:=zg6 h e;exact we5 ⟨a,d,f⟩
theorem jdn{E:Nat->Nat->Bool}(h:Eqv E){a b:Nat}(c:E a b=true):cls E a=cls E b:=by
 unfold cls;have:(λx=>E x a)=λx=>E x b:=funext λx=>by rw[h.s x a,h.s x b];exact h.t a b x c
 rw[this]
theorem joo{E:Nat->Nat->Bool}(h:Eqv E){b:Nat}(l:b<256)(i:∀a,a<b->E a b=false):cls E b=(qm E b).length/\(qm E (b+1)).length=(qm E b).length+1:=by
 have g:∀k a,a∈qm E k->a<k:=by
  intro k;induction k with
  |zero=>intro a c;cases c
  |succ k j=>
   intro a c;unfold qm at c;split at c
   ·have:=j a c;omega
   ·rcases wco.1 c with f|f
    ·have:=j a f;omega
    ·rw[wci.1 f];omega
 have d:(qm E b).any (E · b)=false:=by
  rw[List.any_eq_false];intro a c;rw[i a (g b a c)];simp
 have e:qm E (b+1)=qm E b++[b]:=by
  show(if(qm E b).any (E · b)then qm E b else qm E b++[b])=_;rw[d];rfl
 refine⟨?_,by rw[e];simp⟩;rw[<- jhc h (wfd b) (by omega),e,List.findIdx_append];have:(qm E b).findIdx (E · b)=(qm E b).length:=List.findIdx_eq_length.2 λa c=>by simpa using i a (g b a c)
 rw[this,if_neg (by omega)];simp[h.r b]
theorem jh8{E:Nat->Nat->Bool}(h:Eqv E){a b:Nat}(c:a<b)(e:E a b=true):qm E (b+1)=qm E b:=by
 obtain⟨x,f,d⟩:=zg6 h c;have:E x b=true:=by rw[<- h.t x a b d]at e;exact e
 show(if(qm E b).any (E · b)then qm E b else qm E b++[b])=_;rw[if_pos (wep.2 ⟨x,f,this⟩)]
def Vv(l:List (Arr 4 Int))(a b:Nat):Bool:=decide (l.map (zfa · a)=l.map (zfa · b))
theorem zgn(l:List (Arr 4 Int)):Eqv (Vv l) where
 r a:=by simp[Vv]
 s a b:=wfo.2 ⟨Eq.symm,Eq.symm⟩
 t a b c h:=by
  have h:=wcd h;unfold Vv;rw[h]
theorem z50(l:List (Arr 4 Int))(A:l.length<=1000000)(p:∀s∈l,zdl s)(a b:Nat)(n:a<256)(o:b<256):Tn (λu=>Ze u l (a:Int) (b:Int)) (λr=>r=Vv l a b):=by
 unfold Ze;refine Tt.loop (λm s=>∃k:Nat,k<=l.length/\m=l.length-k/\s=(l,(a:Int),(b:Int),(k:Int))/\Vv l a b=Vv (l.drop k) a b) l.length waa ⟨0,by omega,by omega,rfl,rfl⟩ λm s⟨k,z,B,i,e⟩ C h=>?_;subst i;dsimp only;refine wab (λc=>?_) (λc=>Tt.pure ?_)
 ·have c:=wcd c;have d:k<l.length:=by omega
  have f:=p _ (wcm d);have v:wr .u8 (a:Int)=(a:Int):=Jx (by omega) (by omega);have w:wr .u8 (b:Int)=(b:Int):=Jx (by omega) (by omega);rw[v,w];rw[wc0 d]at e;refine wac _ (atN d) (Waa (zl4 _ f a n) waa.fst λx q=>wac _ (atN d) (Waa (zl4 _ f b o) waa.fst λy t=>?_));subst q t;have j:Vv (l[k]::l.drop (k+1)) a b=((zfa l[k] a == zfa l[k] b) && Vv (l.drop (k+1)) a b):=by
   unfold Vv;rw[wc4,wc4,Bool.eq_iff_iff];simp
  rw[j]at e;refine wab (λc=>Tt.pure ?_) λc=>wad ?_
  ·have c:(zfa l[k] a == zfa l[k] b)=false:=by simpa using c
   rw[e,c];rfl
  ·have c:(zfa l[k] a == zfa l[k] b)=true:=by simpa using c
   rw[wI (by omega) (by omega)];exact h (l.length-(k+1)) _ (by omega) ⟨k+1,by omega,rfl,rfl,by rw[e,c];rfl⟩
 ·have g:k=l.length:=by have:=wce c;omega
  rw[e,g,wd3];simp[Vv]
theorem zb8(E:Nat->Nat->Bool):∀k,(qm E k).length<=k
 |0=>by simp[qm]
 |k+1=>by
  have h:=zb8 E k;unfold qm;split
  ·omega
  ·rw[wcu,wc5];omega
structure ClsAt(E:Nat->Nat->Bool)(a:Arr 256 Int)(k:Nat):Prop where
 c:∀b,b<k->a.l[b]?=some (cls E b:Int)
theorem ClsAt.set{E:Nat->Nat->Bool}{a d:Arr 256 Int}{k:Nat}(h:ClsAt E a k)(j:k<256){x:Int}(f:d.l=a.l.set k x)(g:x=(cls E k:Int)):ClsAt E d (k+1):=⟨λb i=>by
 have m:=a.h;rw[f,wc8];by_cases e:k=b
 ·subst e;rw[if_pos rfl,if_pos (by omega),g]
 ·rw[if_neg e];exact h.c b (by omega)⟩
theorem jiv(l:List (Arr 4 Int))(M:l.length<=1000000)(R:∀s∈l,zdl s):Tn (λG=>zh3 G l) (λr=>r.2.1=((qm (Vv l) 256).length:Int)/\ClsAt (Vv l) r.1 256):=by
 obtain⟨E,w⟩:∃E,Vv l=E:=⟨_,rfl⟩
 have q:Eqv E:=w▸zgn l;have y:∀a b:Nat,a<256->b<256->Tn (λG=>Ze G l (a:Int) (b:Int)) (λr=>r=E a b):=λa b K L=>w▸z50 l M R a b K L;rw[w];unfold zh3;refine Tt.loop (λm s=>∃(k:Nat)(n:Arr 256 Int),k<=256/\m=256-k/\s=(l,((qm E k).length:Int),(k:Int),⟨List.replicate 256 0,wch⟩,n)/\ClsAt E n k) 256 waa ⟨0,_,by omega,by omega,rfl,⟨λb L=>by omega⟩⟩ λm s⟨k,n,U,V,i,p⟩ W B=>?_;subst i;dsimp only;refine wab (λc=>?_) (λc=>Tt.pure ?_)
 rotate_left
 ·have A:k=256:=by have:=wce c;omega
  subst A;exact⟨rfl,p⟩
 have c:=wcd c;have d:k<256:=by omega
 have O:=n.h;have Q:=zb8 E k;refine Tt.J (λs=>∃f,s=(l,((qm E (k+1)).length:Int),(k:Int),⟨List.replicate 256 0,wch⟩,f)/\ClsAt E f (k+1)) (λX o=>?_) λs⟨f,i,z⟩=>?_
 ·refine Tt.loop (λm s=>∃a:Nat,a<=k/\m=k-a/\s=(l,((qm E k).length:Int),(k:Int),(a:Int),⟨List.replicate 256 0,wch⟩,n)/\∀x,x<a->E x k=false) k waa.fst ⟨0,by omega,by omega,rfl,λx F=>by omega⟩ λm s⟨a,K,N,i,F⟩ Y C=>?_;subst i;dsimp only;refine Waa (y a k (by omega) d) waa.fst.fst λr P=>?_;subst P;refine wab (λj=>wad ?_) λj=>?_
  ·have j:E a k=false:=by simpa using j
   have g:a<k:=by
    by_cases e:a=k
    ·rw[e,q.r]at j;cases j
    ·omega
   rw[wI (by omega) (by omega)];refine C (k-(a+1)) _ (by omega) ⟨a+1,by omega,rfl,rfl,λx T=>?_⟩;by_cases e:x=a
   ·rw[e];exact j
   ·exact F x (by omega)
  ·have j:E a k=true:=by simpa using j
   refine wab (λt=>?_) λt=>?_
   ·have g:a<k:=by have:=wcd t;omega
    have S:atL n.l (a:Int)=some (cls E a:Int):=by
     have H:=p.c a g;have I:a<n.l.length:=by omega
     rw[atN I];rw[wcf I]at H;exact H
    obtain⟨f,u,v⟩:=zuq n d (cls E a:Int);refine wac _ (qv (by omega)) (wac _ S (wac _ (qv d) (wac _ u (o.fst _ ⟨f,?_,p.set d v (by rw[jdn q j])⟩))));rw[jh8 q g j]
   ·have g:a=k:=by have:=wce t;omega
    subst g;obtain⟨n1,n2⟩:=joo q d F;have D:wr .u8 ((qm E a).length:Int)=((qm E a).length:Int):=Jx (by omega) (by omega);obtain⟨f,u,v⟩:=zuq n d ((qm E a).length:Int);rw[D];refine wac _ (qv d) (wac _ u (wad (o.fst _ ⟨f,?_,p.set d v (by rw[n1])⟩)));rw[wI (by omega) (by omega),n2];rfl
 ·subst i;refine wad ?_;dsimp only;rw[wI (by omega) (by omega)];exact B (256-(k+1)) _ (by omega) ⟨k+1,f,by omega,rfl,rfl,z⟩
theorem nandP(m r:Nat):m &&& 2 ^ r=if m.testBit r=true then 2 ^ r else 0:=by
 apply Nat.eq_of_testBit_eq;intro i;rw[Nat.testBit_and,Nat.testBit_two_pow];by_cases h:r=i
 ·subst h;cases a:m.testBit r<;>simp
 ·cases a:m.testBit r<;>simp[h]
theorem andP(m r:Nat)(hm:m<18446744073709551616)(d:r<64):zy9 .u64 (m:Int) ((2 ^ r:Nat):Int)=((if m.testBit r=true then 2 ^ r else 0:Nat):Int):=by
 have a:2 ^ r<18446744073709551616:=wfq (Nat.pow_lt_pow_right (by decide) d) (by decide);have b:(BitVec.ofInt IntKind.u64.bits (m:Int) &&& BitVec.ofInt IntKind.u64.bits ((2 ^ r:Nat):Int)).toNat=if m.testBit r=true then 2 ^ r else 0:=by
  show(BitVec.ofInt 64 (m:Int) &&& BitVec.ofInt 64 ((2 ^ r:Nat):Int)).toNat=_;rw[BitVec.ofInt_natCast,BitVec.ofInt_natCast,BitVec.toNat_and,BitVec.toNat_ofNat,BitVec.toNat_ofNat,Nat.mod_eq_of_lt hm,Nat.mod_eq_of_lt a,nandP]
 have c:(if m.testBit r=true then 2 ^ r else 0)<18446744073709551616:=by
  split
  ·exact a
  ·decide
 unfold zy9;rw[b];generalize (if m.testBit r=true then 2 ^ r else 0)=q at c;exact zcv (by omega) (by omega)
theorem jnb(s:Arr 4 Int)(d:zdl s)(b:Nat)(m:b<256):Tn (λo=>zbz o s (b:Int)) (λr=>r=zfa s b):=by
 unfold zbz;obtain⟨w,f⟩:∃w:Nat,s.l.getD (b / 64) 0=(w:Int):=⟨(s.l.getD (b / 64) 0).toNat,by have:=(d (b / 64)).1;omega⟩
 have a:w<18446744073709551616:=by have:=(d (b / 64)).2;omega
 have c:b % 64<64:=Nat.mod_lt _ (by decide);have g:2 ^ (b % 64)<18446744073709551616:=wfq (Nat.pow_lt_pow_right (by decide) c) (by decide);have p:z3u .u64 1 ((b % 64:Nat):Int)=some ((2 ^ (b % 64):Nat):Int):=by
  unfold z3u;rw[if_neg (by omega),wcx,show min (b % 64) IntKind.u64.bits=b % 64 from wft (by show b % 64<=64;omega)];rw[Int.one_mul,show((2:Int) ^ (b % 64))=((2 ^ (b % 64):Nat):Int) by simp];generalize 2 ^ (b % 64)=q at g;rw[zcv (by omega) (by omega)]
 refine wac _ (jke m) (wac _ (qv (by omega)) (wac _ (at4E s (k:=b / 64) (by omega)) (wac _ (jdp b) (wac _ p (Tt.pure ?_)))));rw[f,andP w _ a c];unfold zfa zrt;rw[f,wcx,show min (b % 64) 64=b % 64 from wft (by omega)];have e:((w:Int)).fdiv (2 ^ (b % 64))=((w / 2 ^ (b % 64):Nat):Int):=by
  rw[Int.fdiv_eq_ediv_of_nonneg _ (by exact_mod_cast wem _)];simp
 rw[e,and1];refine wfo.2 (not_congr ?_);have i:w.testBit (b % 64)=decide (w / 2 ^ (b % 64) % 2=1):=Nat.testBit_eq_decide_div_mod_eq;have n:0<2 ^ (b % 64):=Nat.two_pow_pos _;rw[i];by_cases h:w / 2 ^ (b % 64) % 2=1
 ·rw[if_pos (wc9 h),h];generalize 2 ^ (b % 64)=q at n;omega
 ·have j:w / 2 ^ (b % 64) % 2=0:=by omega
  rw[if_neg (by rw[wcw h];simp),j]
theorem zwi{E:Nat->Nat->Bool}(h:Eqv E){k:Nat}(f:k<256):((qm E k).any (E · k)=true->qm E (k+1)=qm E k/\cls E k=(qm E k).findIdx (E · k))/\((qm E k).any (E · k)=false->qm E (k+1)=qm E k++[k]/\cls E k=(qm E k).length):=by
 have e:qm E (k+1)=if(qm E k).any (E · k)then qm E k else qm E k++[k]:=rfl
 have c:=jhc h (wfd k) (by omega:k+1<=256);constructor
 ·intro b;rw[if_pos b]at e;rw[e]at c;exact⟨e,c.symm⟩
 ·intro b;rw[if_neg (by rw[b];simp)]at e;rw[e,List.findIdx_append]at c;have:(qm E k).findIdx (E · k)=(qm E k).length:=List.findIdx_eq_length.2 λa d=>by simpa using List.any_eq_false.1 b a d
  rw[this,if_neg (by omega)]at c;simp[h.r k]at c;exact⟨e,c.symm⟩
theorem jmd{E:Nat->Nat->Bool}(h:Eqv E){a b:Nat}(k:a<256)(l:b<256)(g:cls E a=cls E b):E a b=true:=by
 have e:(qm E 256).findIdx (E · a)<(qm E 256).length:=by
  obtain⟨x,c,d⟩:=zg6 h k;exact we5 ⟨x,c,d⟩
 have f:(qm E 256).findIdx (E · b)<(qm E 256).length:=by
  obtain⟨x,c,d⟩:=zg6 h l;exact we5 ⟨x,c,d⟩
 have i:=List.findIdx_getElem (w:=e);have j:=List.findIdx_getElem (w:=f);unfold cls at g;simp only[g]at i;rw[h.t _ a b i]at j;exact j
def zl8(key:Nat->vn):List Nat->Nat->List (vn×Int×Unit)
 |[],_=>[]
 |r::L,i=>(key r,(i:Int),())::zl8 key L (i+1)
theorem z7m(key:Nat->vn)(k:Nat):∀(L:List Nat)(i:Nat),zl8 key (L++[k]) i=zl8 key L i++[(key k,((i+L.length:Nat):Int),())]
 |[],i=>by simp[zl8]
 |r::L,i=>by
  rw[we4];show(key r,(i:Int),())::zl8 key (L++[k]) (i+1)=_;rw[z7m key k L (i+1),wdy,show i+1+L.length=i+(L.length+1) by omega];rfl
theorem z8r(key:Nat->vn):∀(L:List Nat)(i:Nat),(zl8 key L i).length=L.length
 |[],_=>rfl
 |r::L,i=>by
  show(zl8 key L (i+1)).length+1=L.length+1;rw[z8r key L (i+1)]
theorem z7y{key:Nat->vn}{P:Nat->Bool}{k:Nat}:∀{L:List Nat}{i:Nat},(∀r∈L,Qm (key k) (key r)=P r)->z7 Qm (zl8 key L i) (key k)=if L.any P then some ((i+L.findIdx P:Nat):Int)else none
 |[],i,_=>rfl
 |r::L,i,h=>by
  have b:=h r (by simp);have c:=z7y (key:=key) (P:=P) (k:=k) (L:=L) (i:=i+1) λx d=>h x (by simp[d]);show z7 Qm ((key r,(i:Int),())::zl8 key L (i+1)) (key k)=_;unfold z7;dsimp only;rw[b];cases a:P r with
  |true=>simp[a,List.findIdx_cons]
  |false=>
   dsimp only;rw[c];simp only[List.any_cons,a,wfz,List.findIdx_cons,cond_false];rw[show i+1+L.findIdx P=i+(L.findIdx P+1) by omega]
def zsn(E:Nat->Nat->Bool)(s:Arr 4 Int)(a b:Nat):Bool:=E a b && (zfa s a == zfa s b)
theorem jhe{E:Nat->Nat->Bool}(h:Eqv E)(s:Arr 4 Int):Eqv (zsn E s) where
 r a:=by simp[zsn,h.r]
 s a b:=by unfold zsn;rw[h.s a b,Bool.beq_comm]
 t a b c he:=by
  unfold zsn at he⊢;rw[wcl,beq_iff_eq]at he;rw[h.t a b c he.1,he.2]
def zju(E:Nat->Nat->Bool)(s:Arr 4 Int)(b:Nat):vn:=((cls E b:Int),zfa s b,())
theorem kq_iff{x y:vn}:Qm x y=true↔x=y:=by
 obtain⟨a,b,c⟩:=x;obtain⟨d,e,f⟩:=y;simp[Qm,zvf]
theorem jl7{E:Nat->Nat->Bool}(h:Eqv E){s:Arr 4 Int}{k r:Nat}(c:k<256)(d:r<256):Qm (zju E s k) (zju E s r)=zsn E s r k:=by
 rw[Bool.eq_iff_iff,kq_iff];unfold zsn zju;rw[wcl,beq_iff_eq];constructor
 ·intro e;have b:(cls E k:Int)=cls E r:=congrArg (·.1) e;have a:zfa s k=zfa s r:=congrArg (·.2.1) e;exact⟨jmd h d c (by omega),a.symm⟩
 ·rintro⟨b,a⟩;rw[jdn h b,a]
theorem zuu{E:Nat->Nat->Bool}:∀{k a:Nat},a∈qm E k->a<k
 |0,a,b=>by cases b
 |k+1,a,b=>by
  unfold qm at b;split at b
  ·have:=zuu b;omega
  ·rcases wco.1 b with c|c
   ·have:=zuu c;omega
   ·rw[wci.1 c];omega
theorem z84{E:Nat->Nat->Bool}(h:Eqv E)(a:Arr 256 Int)(R:ClsAt E a 256)(s:Arr 4 Int)(U:zdl s):Tn (λW=>Q7 W a s) (λr=>ClsAt (zsn E s) r 256):=by
 obtain⟨F,z⟩:∃F,zsn E s=F:=⟨_,rfl⟩
 have S:Eqv F:=z▸jhe h s;have G:∀k r:Nat,k<256->r<256->Qm (zju E s k) (zju E s r)=F r k:=λk r O q=>z▸jl7 h O q;rw[z];unfold Q7;refine Tt.loop (λj t=>∃(k:Nat)(e:Arr 256 Int),k<=256/\j=256-k/\t=((k:Int),e,s,⟨List.replicate 256 0,wch⟩,zl8 (zju E s) (qm F k) 0)/\ClsAt F e k/\∀b,k<=b->b<256->e.l[b]?=some (cls E b:Int)) 256 waa ⟨0,a,by omega,by omega,rfl,⟨λb A=>by omega⟩,λb _ A=>R.c b A⟩ λj t⟨k,e,O,Z,K,N,q⟩ nx H=>?_;subst K;dsimp only;refine wab (λc=>?_) (λc=>Tt.pure ?_)
 rotate_left
 ·have D:k=256:=by have:=wce c;omega
  subst D;exact N
 have c:=wcd c;have d:k<256:=by omega
 have Q:=e.h;have v:k<e.l.length:=by omega
 have M:wr .u8 (k:Int)=(k:Int):=Jx (by omega) (by omega);have V:e.l[k]=(cls E k:Int):=by
  have:=q k (wcq _) d;rw[wcf v]at this;exact wdz this
 refine wac _ (qv d) (wac _ (atN v) ?_);rw[M,V];refine Waa (jnb s U k d) waa.fst λr I=>?_;subst I;obtain⟨m,p⟩:∃m,zl8 (zju E s) (qm F k) 0=m:=⟨_,rfl⟩
 have w:m.length=(qm F k).length:=by rw[<- p,z8r]
 have T:=zb8 F k;have o:z7 Qm m (zju E s k)=if(qm F k).any (F · k)then some ((0+(qm F k).findIdx (F · k):Nat):Int)else none:=by
  rw[<- p];exact z7y λr q=>G k r d (by have:=zuu q;omega)
 obtain⟨X,Y⟩:=zwi S d;rw[p];refine Tt.J (λt=>t=((k:Int),(k:Int),e,s,⟨List.replicate 256 0,wch⟩,zl8 (zju E s) (qm F (k+1)) 0,zju E s k)/\z7 Qm (zl8 (zju E s) (qm F (k+1)) 0) (zju E s k)=some (cls F k:Int)) (λny x=>?_) λt⟨K,C⟩=>?_
 ·refine wad ?_;show Tt _ (λi=>ifB (!(z7 Qm m (zju E s k)).isSome) _ _) _;cases y:(qm F k).any (F · k)with
  |true=>
   obtain⟨g,n⟩:=X y;rw[y,if_pos rfl,wdo,<- n]at o;rw[o];refine wae rfl (x _ ⟨?_,?_⟩)
   ·rw[g,p];rfl
   ·rw[g,p];exact o
  |false=>
   obtain⟨g,n⟩:=Y y;rw[y,if_neg (by simp)]at o;have f:Z3 Qm m (zju E s k) (wr .u8 (m.length:Int))=zl8 (zju E s) (qm F (k+1)) 0:=by
    have L:wr .u8 (m.length:Int)=(m.length:Int):=Jx (by omega) (by omega);rw[L,zmg o,g,z7m,p,wdo,w]
   have u:z7 Qm (zl8 (zju E s) (qm F (k+1)) 0) (zju E s k)=some (cls F k:Int):=by
    have L:wr .u8 (m.length:Int)=(m.length:Int):=Jx (by omega) (by omega);rw[<- f,zkg (jdd _),L,w,n]
   rw[o];refine wah rfl (wad (wad (x _ ⟨?_,u⟩)));rw[<- f];rfl
 ·subst K;dsimp only;rw[C];obtain⟨P,g,n⟩:=zuq e d (cls F k:Int);refine wad (wac _ (qv d) (wac _ g (wad ?_)));rw[wI (by omega) (by omega)];refine H (256-(k+1)) _ (by omega) ⟨k+1,P,by omega,rfl,rfl,N.set d n rfl,λb A B=>?_⟩;rw[n,wec (by omega)];exact q b (by omega) B
theorem zxa{E:Nat->Nat->Bool}(h:Eqv E):∀{k:Nat},k<=256->∀{j r:Nat},(qm E k)[j]?=some r->cls E r=j
 |0,_,j,r,a=>by simp[qm]at a
 |k+1,l,j,r,a=>by
  obtain⟨g,i⟩:=zwi h (show k<256 by omega);cases c:(qm E k).any (E · k)with
  |true=>
   rw[(g c).1]at a;exact zxa h (by omega) a
  |false=>
   obtain⟨d,e⟩:=i c;rw[d]at a;by_cases f:j<(qm E k).length
   ·rw[wcr f]at a;exact zxa h (by omega) a
   ·rw[wct (by omega)]at a;have h0:=(wcg.1 a).1;have b:j-(qm E k).length=0:=by simp at h0;omega
    rw[b]at a;simp at a;rw[<- a,e];omega
theorem jkz{E:Nat->Nat->Bool}(h:Eqv E){b:Nat}(d:b<256):cls E b<(qm E 256).length:=by
 obtain⟨x,a,c⟩:=zg6 h d;exact we5 ⟨x,a,c⟩
theorem znj{E:Nat->Nat->Bool}(h:Eqv E){a:Arr 256 Int}(f:ClsAt E a 256):ClsN a (qm E 256).length:=by
 have i:=a.h;refine⟨by have:=jkz h (show 0<256 by omega);omega,zb8 E 256,λb x d=>?_,λj g=>?_⟩
 ·have e:b<256:=by have:=(wcg.1 d).1;omega
  rw[f.c b e]at d;exact⟨cls E b,jkz h e,(wdz d).symm⟩
 ·have k:(qm E 256)[j]?=some (qm E 256)[j]:=wcf g;refine⟨(qm E 256)[j],?_⟩;rw[f.c _ (zuu (wcm g)),zxa h (wcq _) k]
theorem jlt(b:Nat):cls (Vv []) b=0:=by
 have h:qm (Vv []) 256=0::(qm (Vv []) 256).tail:=by
  obtain⟨t,a⟩:=zvv (E:=Vv []) 1 255;have c:qm (Vv []) 1=[0]:=by simp[qm]
  rw[c]at a;rw[show(1:Nat)+255=256 from rfl]at a;rw[a];rfl
 unfold cls;rw[h,List.findIdx_cons];simp[Vv]
theorem jfg{l:List (Arr 4 Int)}{k:Nat}(c:k<l.length):zsn (Vv (l.take k)) l[k]=Vv (l.take (k+1)):=by
 funext a b;unfold zsn Vv;rw[wcn c,Bool.eq_iff_iff];simp only[wdb,wc4,wed,wcl,wcy,beq_iff_eq];constructor
 ·rintro⟨e,f⟩;rw[e,f]
 ·intro h;have d:=List.append_inj h (by simp);exact⟨d.1,by simpa using d.2⟩
theorem kOf_ex(l:List (Arr 4 Int))(x:l.length<=1000000)(m:∀s∈l,zdl s):Tn (λp=>zj4 p l) (λr=>r.2.1=((qm (Vv l) 256).length:Int)/\ClsAt (Vv l) r.1 256):=by
 unfold zj4;refine Tt.loop (λj t=>∃(k:Nat)(a:Arr 256 Int),k<=l.length/\j=l.length-k/\t=(l,(l.length:Int),(k:Int),⟨List.replicate 256 0,wch⟩,a)/\ClsAt (Vv (l.take k)) a 256) l.length waa ⟨0,_,by omega,by omega,rfl,⟨λb i=>?_⟩⟩ λj t⟨k,a,v,u,n,e⟩ y g=>?_
 ·rw[List.take_zero,jlt];show(List.replicate 256 (0:Int))[b]?=some _;rw[wdf,if_pos i];rfl
 subst n;dsimp only;refine wab (λc=>?_) (λc=>?_)
 ·have c:=wcd c;have d:k<l.length:=by omega
  refine wac _ (atN d) (Waa (z84 (zgn _) a e _ (m _ (wcm d))) waa.fst λq h=>wad ?_);rw[wI (by omega) (by omega)];rw[jfg d]at h;exact g (l.length-(k+1)) _ (by omega) ⟨k+1,_,by omega,rfl,rfl,h⟩
 ·have f:k=l.length:=by have:=wce c;omega
  rw[f,wc2]at e;exact Waa (z2h a (znj (zgn l) e)) waa.fst λw o=>Tt.pure ⟨o,e⟩
theorem Of_one{E:Nat->Nat->Bool}{n:Int}{x y:Arr 256 Int×Int×Unit}(h:x.2.1=n/\ClsAt E x.1 256)(j:y.2.1=n/\ClsAt E y.1 256):x=y:=by
 obtain⟨⟨a,k⟩,w,u⟩:=x;obtain⟨⟨b,l⟩,v,m⟩:=y;obtain⟨rfl,f⟩:=h;obtain⟨d,g⟩:=j;dsimp only at d;subst d;have:a=b:=by
  apply wee;intro i;by_cases e:i<256
  ·exact(f.c i e).trans (g.c i e).symm
  ·rw[wdt (by omega),wdt (by omega)]
 subst this;rfl
def Jk(fd:List (List Int))(x:List Int):Int×List (List Int):=if x=[]then(-1,fd)else if zbb fd x 0<0 then((fd.length:Int),fd++[x])else(zbb fd x 0,fd)
theorem ziw(fd:List (List Int))(x:List Int):fd.length<=(Jk fd x).2.length/\(Jk fd x).2.length<=fd.length+1:=by
 unfold Jk;split
 ·exact⟨wcq _,Nat.le_succ _⟩
 ·split
  ·simp
  ·exact⟨wcq _,Nat.le_succ _⟩
def zsz(sp:Nat->List Int):List Nat->List (List Int)->List Int->List (List Int)×List Int
 |[],a,row=>(a,row)
 |c::cs,a,row=>zsz sp cs (Jk a (sp c)).2 (row++[(Jk a (sp c)).1])
def zk4(sp:Nat->List Int)(a:Int):List Nat->List (List Int)->List Int->Option (List (List Int)×List Int)
 |[],b,row=>some (b,row)
 |c::cs,b,row=>if a<((Jk b (sp c)).2.length:Int)then none else zk4 sp a cs (Jk b (sp c)).2 (row++[(Jk b (sp c)).1])
theorem zno(sp:Nat->List Int):∀(cs:List Nat)(fd:List (List Int))(row:List Int),fd.length<=(zsz sp cs fd row).1.length
 |[],_,_=>wcq _
 |c::cs,fd,row=>wdk (ziw fd (sp c)).1 (zno sp cs _ _)
theorem z3o(sp:Nat->List Int)(a:Int):∀(cs:List Nat)(fd:List (List Int))(row:List Int),(fd.length:Int)<=a->zk4 sp a cs fd row=if((zsz sp cs fd row).1.length:Int)<=a then some (zsz sp cs fd row)else none
 |[],fd,row,h=>by
  show some (fd,row)=if(fd.length:Int)<=a then some (fd,row)else none
  rw[if_pos h]
 |c::cs,fd,row,h=>by
  have d:=zno sp cs (Jk fd (sp c)).2 (row++[(Jk fd (sp c)).1]);show(if a<((Jk fd (sp c)).2.length:Int)then none else zk4 sp a cs (Jk fd (sp c)).2 (row++[(Jk fd (sp c)).1]))=if((zsz sp cs (Jk fd (sp c)).2 (row++[(Jk fd (sp c)).1])).1.length:Int)<=a then some (zsz sp cs (Jk fd (sp c)).2 (row++[(Jk fd (sp c)).1]))else none
  by_cases b:a<((Jk fd (sp c)).2.length:Int)
  ·rw[if_pos b,if_neg (by omega)]
  ·rw[if_neg b];exact z3o sp a cs _ _ (by omega)
def zik(start:Nat->List Int)(step:List Int->Nat->List Int)(fd:List (List Int))(at':Nat)(c:Nat):List Int:=if at'=0 then start c else step (fd.getD at' []) c
def z7v(start:Nat->List Int)(step:List Int->Nat->List Int)(tok:List Int->Int)(W:Nat)(b:Int):Nat->Nat->List (List Int)->List (List Int)->List Int->Option (Option (List (List Int)×List (List Int)×List Int))
 |0,_,_,_,_=>none
 |f+1,i,c,rows,a=>if i<c.length then
   match zk4 (zik start step c i) b (List.range W) c []with
   |none=>some none
   |some (d,row)=>z7v start step tok W b f (i+1) d (rows++[row]) (a++[tok (c.getD i [])])
  else some (some (c,rows,a))
theorem zwk{start:Nat->List Int}{step:List Int->Nat->List Int}{tok:List Int->Int}{W:Nat}{a:Int}:∀{f i:Nat}{fd rows:List (List Int)}{labs:List Int}{r:List (List Int)×List (List Int)×List Int},(fd.length:Int)<=a->z7v start step tok W a f i fd rows labs=some (some r)->fd.length<=r.1.length/\(r.1.length:Int)<=a
 |0,_,_,_,_,_,_,h=>by cases h
 |f+1,i,fd,rows,labs,r,d,h=>by
  unfold z7v at h;by_cases c:i<fd.length
  ·rw[if_pos c,z3o _ _ _ _ _ d]at h;have j:=zno (zik start step fd i) (List.range W) fd [];by_cases b:((zsz (zik start step fd i) (List.range W) fd []).1.length:Int)<=a
   ·rw[if_pos b]at h;obtain⟨g,e⟩:=zwk b h;exact⟨by omega,e⟩
   ·rw[if_neg b]at h;cases h
  ·rw[if_neg c]at h;cases h;exact⟨wcq _,d⟩
theorem fb_ex(a:Arr 256 Int){n:Nat}(h:ClsN a n)(c:Nat)(g:c<n):∃b:Nat,b<256/\Tn (λi=>Qg i a (c:Int)) (λr=>atL r 0=some (b:Int)):=by
 obtain⟨r,⟨N,d⟩,b,e,f⟩:=je2 a h c g;exact⟨b,e,r,⟨N,d⟩,f⟩
open Classical in
def zhd(a:Arr 256 Int)(c:Nat):Nat:=if h:∃b:Nat,b<256/\Tn (λd=>Qg d a (c:Int)) (λr=>atL r 0=some (b:Int))then h.choose else 0
theorem zuo(a:Arr 256 Int)(c:Nat):zhd a c<256:=by
 unfold zhd;split
 ·rename_i h;exact h.choose_spec.1
 ·omega
theorem jb2(a:Arr 256 Int){n:Nat}(h:ClsN a n)(c:Nat)(d:c<n):Tn (λe=>Qg e a (c:Int)) (λr=>atL r 0=some (zhd a c:Int)):=by
 have b:=fb_ex a h c d;unfold zhd;rw[dif_pos b];exact b.choose_spec.2
theorem jak(a:Arr 256 Int){n:Nat}(h:ClsN a n)(c:Nat)(b:c<n):Tn (λd=>zck d a (c:Int)) (λr=>atL r 0=some (zhd a c:Int)):=jb2 a h c b
def spN(n:jk)(a:Arr 256 Int)(fd:List (List Int))(i c:Nat):List Int:=zik (λc=>zby n (zhd a c)) (λl c=>zgs n l (zhd a c)) fd i c
theorem z0u(n:jk)(b:Nat):RN n.1.length (zby n b):=by
 unfold zby;split
 ·rename_i h;exact h.fi.sub List.filter_sublist
 ·exact RN.nil _
theorem z70(n:jk)(l:List Int)(b:Nat):RN n.1.length (zgs n l b):=by
 unfold zgs;split
 ·have a:RN n.1.length (z3z n.1.length (ztj n l)):=⟨zx0,λx h=>⟨(zg2.1 h).1,(zg2.1 h).2.1⟩⟩
  exact a.sub List.filter_sublist
 ·exact RN.nil _
theorem jia(n:jk)(a:Arr 256 Int)(fd:List (List Int))(i c:Nat):RN n.1.length (spN n a fd i c):=by
 unfold spN zik;split
 ·exact z0u _ _
 ·exact z70 _ _ _
def jeb(a:Arr 256 Int)(W:Int):Option (Option (List (List Int)×List (List Int)×List Int))->jg×Int×Int×Unit
 |some (some (c,rows,b))=>((a,W,rows,b,()),(c.length:Int),0,())
 |_=>((⟨List.replicate 256 0,wch⟩,0,[],[],()),0,16,())
def zly(n:jk)(a:Arr 256 Int)(W:Nat)(z:Int):=z7v (λc=>zby n (zhd a c)) (λl c=>zgs n l (zhd a c)) (zkz n) W z
theorem jdk{x:List Int}:∀{l:List (List Int)}{i:Nat},zbb l x i<(i+l.length:Int)/\(zbb l x i=-1\/(i:Int)<=zbb l x i)
 |[],i=>⟨by simp[zbb];omega,.inl rfl⟩
 |y::l,i=>by
  have:=jdk (x:=x) (l:=l) (i:=i+1);show(if y=x then(i:Int)else zbb l x (i+1))<_/\_;have e:zbb (y::l) x i=if y=x then(i:Int)else zbb l x (i+1):=rfl
  rw[e];split
  ·exact⟨by simp;omega,.inr (by omega)⟩
  ·obtain⟨b,a⟩:=this;refine⟨by simp;omega,?_⟩;rcases a with a|a
   ·exact .inl a
   ·exact .inr (by omega)
theorem z76(fd:List (List Int))(x:List Int):∃t,(Jk fd x).2=fd++t:=by
 unfold Jk;split
 ·exact⟨[],by simp⟩
 ·split
  ·exact⟨[x],rfl⟩
  ·exact⟨[],by simp⟩
theorem z73{fd:List (List Int)}{x y:List Int}(h:y∈(Jk fd x).2):y∈fd\/y=x:=by
 unfold Jk at h;split at h
 ·exact .inl h
 ·split at h
  ·rcases wco.1 h with h|h
   ·exact .inl h
   ·exact .inr (wci.1 h)
  ·exact .inl h
theorem jft(n:jk){N:Nat}(P:N<=1000)(hz:ziq N 60000 n)(hs:∀s∈n.1,zdl s)(hR:z4d n)(z:Int)(h1:1<=z)(h2:z<=200):Tn (λnn=>Zu nn n z) (λr=>∃a:Arr 256 Int,ClsAt (Vv n.1) a 256/\r=jeb a ((qm (Vv n.1) 256).length:Int) (zly n a (qm (Vv n.1) 256).length z 202 0 [[]] [] [])):=by
 have z1:=hz.s;unfold Zu;refine Waa (zaf n P hz) waa λb K=>?_;have K:=K.2 hR;subst K;refine wae rfl ?_;refine Tt.J (λs=>s=(z,false,n,⟨List.replicate 256 0,wch⟩,0,[],[])) (λnx G=>?_) λs l=>?_
 ·refine wad (wae (wcw (by omega)) (G _ ?_));rw[wcw (by omega)]
 subst l;dsimp only;refine wae rfl ?_;refine Waa (jiv n.1 (by omega) hs) waa λcw⟨hw,Y⟩=>?_;obtain⟨a,w,u⟩:=cw;dsimp only at hw Y;obtain⟨W,V⟩:∃W,(qm (Vv n.1) 256).length=W:=⟨_,rfl⟩
 have b4:W<=256:=by rw[<- V];exact zb8 _ _
 have Z:ClsN a W:=V▸znj (zgn n.1) Y;rw[V]at hw⊢;subst hw;obtain⟨R,I⟩:∃R,zly n a W z 202 0 [[]] [] []=R:=⟨_,rfl⟩
 refine Tt.mono (Q:=λr=>r=jeb a (W:Int) R) ?_ λr hr=>⟨a,Y,by rw[I];exact hr⟩
 refine Tt.loop (λm s=>∃(i:Nat)(e rows:List (List Int))(d:List Int),m=202-i/\s=(z,(i:Int),n,⟨List.replicate 256 0,wch⟩,0,a,(W:Int),e,[],[],rows,d)/\i<=e.length/\(e.length:Int)<=z/\rows.length=i/\d.length=i/\(∀x∈e,RN n.1.length x)/\R=zly n a W z (202-i) i e rows d) 202 waa ⟨0,_,_,_,rfl,rfl,by omega,by simp;omega,rfl,rfl,λx hx=>by rw[wci.1 hx];exact RN.nil _,I.symm⟩ λm s⟨i,e,rows,d,hm,l,hi,hl,hr,K,hf,U⟩ nx G=>?_;subst l;dsimp only;have v:zly n a W z (202-i) i e rows d=if i<e.length then(match zk4 (spN n a e i) z (List.range W) e []with
   |none=>some none
   |some (T,row)=>zly n a W z (202-(i+1)) (i+1) T (rows++[row]) (d++[zkz n (e.getD i [])]))else some (some (e,rows,d)):=by
  rw[show 202-i=(202-(i+1))+1 by omega];rfl
 refine wab (λc=>?_) (λc=>Tt.pure ?_)
 rotate_left
 ·have c:=wce c;rw[U,v,if_neg (by omega)];rfl
 have c:=wcd c;have L:i<e.length:=by omega
 rw[if_pos L]at v;refine Tt.loop (λm s=>∃(k:Nat)(f:List (List Int))(row:List Int),k<=W/\m=W-k/\s=(z,(i:Int),(k:Int),n,⟨List.replicate 256 0,wch⟩,0,a,(W:Int),f,row,[],[],rows,d)/\i<f.length/\(f.length:Int)<=z/\row.length=k/\(∀x∈f,RN n.1.length x)/\f.getD i []=e.getD i []/\zk4 (spN n a e i) z (List.range W) e []=zk4 (spN n a e i) z ((List.range W).drop k) f row) W waa.fst ⟨0,e,[],by omega,by omega,rfl,L,hl,rfl,hf,rfl,rfl⟩ λm2 s⟨k,f,row,hk,b7,l,g,a3,a7,C,D,A⟩ ny a5=>?_;subst l;dsimp only;refine wab (λc=>?_) (λc=>?_)
 ·have c:=wcd c;have F:k<W:=by omega
  have a1:(List.range W).drop k=k::(List.range W).drop (k+1):=by
   rw[wc0 (by simpa using F)];simp
  have o:zk4 (spN n a e i) z ((List.range W).drop k) f row=if z<((Jk f (spN n a e i k)).2.length:Int)then none else zk4 (spN n a e i) z ((List.range W).drop (k+1)) (Jk f (spN n a e i k)).2 (row++[(Jk f (spN n a e i k)).1]):=by
   rw[a1];rfl
  have E:f.getD i []=f[i]:=by simp[List.getD,g]
  refine Waa (jak a Z k F) waa.fst.fst λbs X=>wac _ X (wac _ (qv g) (wac _ (atN g) ?_));have b1:=(C _ (wcm g)).len;refine Waa (z93 n P hz hs f[i] (by omega) (zhd a k) (zuo a k)) waa.fst.fst λp B=>?_;subst B;refine Tt.J (λs=>s=(z,(i:Int),(k:Int),spN n a e i k,n,⟨List.replicate 256 0,wch⟩,0,a,(W:Int),f,row,[],[],rows,d)) (λnz j=>?_) λs l=>?_
  ·refine wab (λc=>?_) λc=>j _ ?_
   ·have c:=wcd c;have a2:i=0:=by omega
    refine Waa (z77 n P hz hs (zhd a k) (zuo a k)) waa.fst.fst λp B=>j _ ?_;subst B;unfold spN zik;rw[if_pos a2]
   ·have c:=wce c;unfold spN zik;rw[if_neg (by omega),<- D,E]
  subst l;dsimp only;obtain⟨p,B⟩:∃p,spN n a e i k=p:=⟨_,rfl⟩
  have O:RN n.1.length p:=B▸jia n a e i k;have c0:=O.len;rw[B]at o⊢;refine Waa (z75 f p (by omega) (by omega) λy hy=>by have:=(C y hy).len;omega) waa.fst.fst λq hq=>?_;subst hq;have hp:=ziw f p;obtain⟨tl,M⟩:=z76 f p;refine Tt.J (λs=>s=(z,(i:Int),(k:Int),(Jk f p).1,n,⟨List.replicate 256 0,wch⟩,0,a,(W:Int),(Jk f p).2,row,[],[],rows,d)) (λnz j=>?_) λs l=>?_
  ·unfold Jk at j;refine wab (λc=>j _ ?_) λc=>?_
   ·have c:=wcd c;have:p=[]:=wfa.1 (by omega);rw[if_pos this]
   ·have c:=wce c;have a4:p≠[]:=λh=>c (by rw[h];rfl);rw[if_neg a4]at j;refine wab (λS=>wad ?_) λS=>j _ ?_
    ·rw[if_pos (wcd S)]at j;exact wac _ (yf (by simp;omega) (by omega)) (j _ rfl)
    ·rw[if_neg (wce S)]
  subst l;dsimp only;refine wab (λH=>Tt.pure ?_) λH=>?_
  ·rw[U,v,A,o,if_pos (wcd H)];rfl
  ·have H:=wce H;rw[if_neg H]at o;refine wac _ (yf (by simp;omega) (by omega)) (wad ?_);rw[wI (by omega) (by omega)];refine a5 (W-(k+1)) _ (by omega) ⟨k+1,(Jk f p).2,row++[(Jk f p).1],by omega,rfl,rfl,by omega,by omega,by simp[a7],λx hx=>?_,?_,A.trans o⟩
   ·rcases z73 hx with h|h
    ·exact C x h
    ·rw[h];exact O
   ·rw[<- D,M];simp only[wdg];rw[wcr g]
 ·have c:=wce c;have F:k=W:=by omega
  have a0:(List.range W).drop k=[]:=wdu (by simp;omega);rw[a0]at A;have A:zk4 (spN n a e i) z (List.range W) e []=some (f,row):=A;rw[A]at v;dsimp only at v;have E:f.getD i []=f[i]:=by simp[List.getD,g]
  have b1:=(C _ (wcm g)).len;refine wac _ (yf (by simp;omega) (by omega)) (wac _ (qv g) (wac _ (atN g) ?_));refine Waa (z7q n P hz f[i] (by omega)) waa.fst.fst λt ht=>?_;subst ht;refine wac _ (yf (by simp;omega) (by omega)) (wad ?_);rw[wI (by omega) (by omega)];exact Tt.fst (G (202-(i+1)) _ (by omega) ⟨i+1,f,rows++[row],d++[zkz n f[i]],rfl,rfl,by omega,a3,by simp[hr],by simp[K],C,by rw[U,v,<- D,E]⟩)
def b8(x:Int)(i:Nat):Int:=wr .u8 ((wr .u64 x).fdiv (2 ^ (min (56-8*(i:Int)).toNat 64)))
def ja7(l:List Int):List Int:=l.flatMap λx=>(List.range 8).map (b8 x)
def zmp(l:List Int):List UInt8:=(ja7 l).map λn=>UInt8.ofNat n.toNat
theorem jdw{l:List Int}{k:Nat}(a:k<l.length):ja7 (l.take (k+1))=ja7 (l.take k)++(List.range 8).map (b8 l[k]):=by
 unfold ja7;rw[wcn a,wex];simp
theorem Key_ex(l:List Int)(u:l.length<=1000):Tn (λo=>zbq o l) (λr=>r=zmp l):=by
 unfold zbq;refine Tt.loop (λj t=>∃(k:Nat)(out:List Int),k<=l.length/\j=l.length-k/\t=(l,(l.length:Int),(k:Int),out)/\out.length=8*k/\out=ja7 (l.take k)) l.length waa ⟨0,_,by omega,by omega,rfl,by simp,rfl⟩ λj t⟨k,out,s,q,h,n,a⟩ w f=>?_;subst h;dsimp only;refine wab (λc=>?_) (λc=>?_)
 ·have c:=wcd c;have b:k<l.length:=by omega
  refine wac _ (atN b) ?_;refine Tt.loop (λm t=>∃(i:Nat)(out:List Int),i<=8/\m=8-i/\t=(l[k],(56-8*i:Int),l,(l.length:Int),(k:Int),out)/\out.length=8*k+i/\out=ja7 (l.take k)++(List.range i).map (b8 l[k])) 8 waa.fst ⟨0,_,by omega,by omega,rfl,by omega,by simp[a]⟩ λm t⟨i,out,p,v,h,n,a⟩ x g=>?_;subst h;dsimp only;refine wab (λc=>?_) (λc=>?_)
  ·have c:=wcd c;refine wac _ (show zre .u64 (wr .u64 l[k]) (56-8*i:Int)=some ((wr .u64 l[k]).fdiv (2 ^ (min (56-8*(i:Int)).toNat 64))) by unfold zre;rw[if_neg (by omega)];rfl) ?_;refine wac _ (yf (by simp;omega) (by omega)) (wad ?_);rw[wI (by omega) (by omega)];refine g (8-(i+1)) _ (by omega) ⟨i+1,out++[b8 l[k] i],by omega,rfl,by show _=_;congr 2;omega,by simp;omega,?_⟩;rw[a,List.range_succ,wdb,wc6];rfl
  ·have c:=wce c;have d:i=8:=by omega
   subst d;refine wad ?_;rw[wI (by omega) (by omega)];exact(f (l.length-(k+1)) _ (by omega) ⟨k+1,_,by omega,rfl,rfl,by omega,by rw[a,jdw b]⟩).fst
 ·have c:=wce c;have e:k=l.length:=by omega
  rw[e,wc2]at a;exact wac _ rfl (Tt.pure (by rw[a];rfl))
theorem jj8:∀x:Fin 1000,(x.val:Int)=256*((UInt8.ofNat (b8 (x.val:Int) 6).toNat).toNat:Int)+((UInt8.ofNat (b8 (x.val:Int) 7).toNat).toNat:Int):=by decide +kernel
theorem zkd(x:Int)(l:List Int):zmp (x::l)=((List.range 8).map λi=>UInt8.ofNat (b8 x i).toNat)++zmp l:=by
 unfold zmp ja7;rw[wdd,wdb,wd8];rfl
theorem z60:∀{l m:List Int},(∀x∈l,0<=x/\x<1000)->(∀x∈m,0<=x/\x<1000)->zmp l=zmp m->l=m
 |[],[],_,_,_=>rfl
 |[],y::m,_,_,h=>by
  have:=congrArg List.length h;have h0:(zmp ([]:List Int)).length=0:=rfl;rw[zkd,wcu,wcv,List.length_range]at this;omega
 |x::l,[],_,_,h=>by
  have:=congrArg List.length h;have h0:(zmp ([]:List Int)).length=0:=rfl;rw[zkd,wcu,wcv,List.length_range]at this;omega
 |x::l,y::m,c,d,h=>by
  rw[zkd,zkd]at h;obtain⟨f,j⟩:=List.append_inj h (by simp);have n:=c x (by simp);have o:=d y (by simp);have g:∀i,i<8->UInt8.ofNat (b8 x i).toNat=UInt8.ofNat (b8 y i).toNat:=λi k=>by
   have:=congrArg (λl=>l[i]?) f;simpa [wcp,k]using this
  have a:=jj8 ⟨x.toNat,by omega⟩;have b:=jj8 ⟨y.toNat,by omega⟩;dsimp only at a b;rw[show((x.toNat:Nat):Int)=x by omega]at a;rw[show((y.toNat:Nat):Int)=y by omega]at b;rw[g 6 (by omega),g 7 (by omega)]at a;have e:x=y:=by omega
  rw[e,z60 (λz hz=>c z (by simp[hz])) (λz hz=>d z (by simp[hz])) j]
theorem zmy{α β:Type}{eqb:α->α->Bool}{k a:α}{v:β}(b:∀x,eqb a x=true->eqb k x=true->False):∀{m:List (α×β×Unit)},eqb a k=false->z7 eqb (Z3 eqb m k v) a=z7 eqb m a
 |[],h=>by
  unfold Z3 z7;rw[h];rfl
 |e::r,h=>by
  unfold Z3;cases d:eqb k e.1
  ·show z7 eqb (e::Z3 eqb r k v) a=z7 eqb (e::r) a;unfold z7;cases eqb a e.1
   ·exact zmy b h
   ·rfl
  ·unfold z7;cases f:eqb a e.1
   ·dsimp only;rw[h]
   ·exact absurd d (by intro c;exact b _ f c)
theorem z8u{x y:List Int}:∀{l:List (List Int)}{i:Nat},zbb (l++[x]) y i=if zbb l y i<0 then(if x=y then((i+l.length:Nat):Int)else -1)else zbb l y i
 |[],i=>by
  show(if x=y then(i:Int)else zbb [] y (i+1))=if(-1:Int)<0 then(if x=y then((i+0:Nat):Int)else -1)else -1
  rw[if_pos (show(-1:Int)<0 by decide)];rfl
 |z::l,i=>by
  show(if z=y then(i:Int)else zbb (l++[x]) y (i+1))=if(if z=y then(i:Int)else zbb l y (i+1))<0 then(if x=y then((i+(l.length+1):Nat):Int)else -1)else(if z=y then(i:Int)else zbb l y (i+1))
  by_cases h:z=y
  ·simp only[if_pos h];rw[if_neg (by omega)]
  ·simp only[if_neg h];rw[z8u (l:=l) (i:=i+1),show i+1+l.length=i+(l.length+1) by omega]
structure WhOk(N:Nat)(wh:Wh)(all:List (List Int)):Prop where
 g:∀x,RN N x->x≠[]->z7 zll wh (zmp x)=if zbb all x 0<0 then none else some (zbb all x 0)
theorem WhOk.nil(N:Nat):WhOk N [] [[]]:=⟨λx _ a=>by
 have:zbb [[]] x 0=-1:=by
  show(if([]:List Int)=x then((0:Nat):Int)else -1)=-1;rw[if_neg λh=>a h.symm]
 rw[this,if_pos (by decide)];rfl⟩
theorem WhOk.add{N:Nat}{n:Wh}{a:List (List Int)}(h:WhOk N n a)(s:N<=1000){x:List Int}(r:RN N x)(p:x≠[])(o:zbb a x 0<0):WhOk N (Z3 zll n (zmp x) (a.length:Int)) (a++[x]):=⟨λy m i=>by
 have q:∀k:List UInt8,zll k k=true:=λk=>by simp[zll]
 rw[z8u];by_cases e:x=y
 ·subst e;rw[if_pos o,if_pos rfl,zkg (q _),if_neg (by omega),wdo]
 ·have l:zmp y≠zmp x:=λd=>e (z60 (λz hz=>by have:=r.b z hz;omega) (λz hz=>by have:=m.b z hz;omega) d.symm);have f:zll (zmp y) (zmp x)=false:=by simpa [zll]using l
  rw[zmy (λz j d=>l (by simp[zll]at j d;rw[j,d])) f,h.g y m i];by_cases c:zbb a y 0<0
  ·rw[if_pos c,if_pos c,if_neg e,if_pos (by decide)]
  ·rw[if_neg c,if_neg c,if_neg c]⟩
def DBX(n:jk)(Z a:Arr 256 Int)(M q w c:Nat)(next:List (List Int))(label:List Int)(e:List Int)(b:List (List Int))(x:List Int)(s:DBS):Prop:=
 ∃(row:List Int)(d:List (List Int))(f:Wh),s=((M:Int),(q:Int),(w:Int),(c:Int),n,Z,0,a,(w:Int),row,[],[],next,label,d,f)/\row.length=w/\row.take (c+1)=e.take c++[(Jk b x).1]/\d=(Jk b x).2/\WhOk n.1.length f d
theorem jju{ι:Type}{D:Fi ι}{φ:ι->Nat}{β:Type}{Q:β->Prop}(hφ:Big D φ){n:jk}{Z a:Arr 256 Int}{M q w c:Nat}{next:List (List Int)}{label:List Int}(X:M<=200)(Y:c<w)(N:n.1.length<=1000){row:List Int}{b:List (List Int)}{k:Wh}(L:row.length=w)(U:b.length<=M)(j:WhOk n.1.length k b)(V:q<b.length)(W:∀x∈b,RN n.1.length x)
  {nx:ι->DBS->Option β}{d:List Int}(p:Nx D Q (DBX n Z a M q w c next label row b d) nx) (C:RN n.1.length d) :
  Tt D (λi=>ifB (decide ((d.length:Int)=0)) (ja (jw row.length (c:Int)) λE=>ja (yz row E (-1)) λF=>nx i ((M:Int),(q:Int),(w:Int),(c:Int),n,Z,0,a,(w:Int),F,[],[],next,label,b,k)) (ja (zbq (φ i) d) λt=>ja (some (z7 zll k t)) λu=>J (λ(m:Int×(List ((List UInt8)×Int×Unit))×(List (List Int)))=>ja (jw row.length (c:Int)) λG=>ja (yz row G m.1) λH=>nx i ((M:Int),(q:Int),(w:Int),(c:Int),n,Z,0,a,(w:Int),H,[],[],next,label,m.2.2,m.2.1)) λy=>ifB (!u.isSome) (ja (some (b.length:Int)) λz=>ja (some (Z3 zll k t z)) λI=>ja (apO 24 b [d]) λK=>y (z,I,K)) (y (gD 0 u,k,b)))) Q:=by
 have S:=C.len;have hp:=ziw b d;have r:∀v:Int,(row.set c v).take (c+1)=row.take c++[v]:=λv=>by
  have A:c<(row.set c v).length:=by simp;omega
  rw[wcn A,List.take_set_of_le (wcq c)];simp
 refine wab (λc0=>wac _ (qv (by omega)) (wac _ (zm _ (by omega)) (p _ ⟨_,_,_,rfl,by simp[L],?_,?_,j⟩))) λc0=>?_
 ·have c0:=wcd c0;have e:d=[]:=wfa.1 (by omega);rw[r];unfold Jk;rw[if_pos e]
 ·have c0:=wcd c0;have e:d=[]:=wfa.1 (by omega);unfold Jk;rw[if_pos e]
 have c0:=wce c0;have l:d≠[]:=λh=>c0 (by rw[h];rfl);refine Waa (Key_ex _ (by omega)) hφ λT o=>wad ?_;subst o;have O:=j.g d C l;refine Tt.J (λs=>∃(k:Wh),s=((Jk b d).1,k,(Jk b d).2)/\WhOk n.1.length k (Jk b d).2) (λny f=>?_) λs⟨k,P,R⟩=>?_
 ·rw[O];unfold Jk at f;rw[if_neg l]at f;by_cases B:zbb b d 0<0
  ·rw[if_pos B]at f⊢;exact wah rfl (wad (wad (wac _ (yf (by simp;omega) (by omega)) (f _ ⟨_,rfl,j.add N C l B⟩))))
  ·rw[if_neg B]at f⊢;exact wae rfl (f _ ⟨_,rfl,j⟩)
 ·subst P;exact wac _ (qv (by omega)) (wac _ (zm _ (by omega)) (p _ ⟨_,_,_,rfl,by simp[L],r _,rfl,R⟩))
theorem jfj(n:jk){N:Nat}(V:N<=1000)(hz:ziq N 60000 n)(hs:∀s∈n.1,zdl s)(hR:z4d n)(z:Int)(c8:1<=z)(c9:z<=200):Tn (λnn=>Z4 nn n z) (λr=>∃a:Arr 256 Int,ClsAt (Vv n.1) a 256/\r=jeb a ((qm (Vv n.1) 256).length:Int) (zly n a (qm (Vv n.1) 256).length z 202 0 [[]] [] [])):=by
 have z1:=hz.s;unfold Z4;refine Waa (zkm n V hz) waa λr o=>?_;have o:=o.2 hR;subst o;refine wae rfl ?_;refine Tt.J (λs=>s=(z,false,n,⟨List.replicate 256 0,wch⟩,0,[],[])) (λnx B=>?_) λs e=>?_
 ·refine wad (wae (wcw (by omega)) (B _ ?_));rw[wcw (by omega)]
 subst e;dsimp only;refine wae rfl ?_;obtain⟨M,rfl⟩:∃M:Nat,z=(M:Int):=⟨z.toNat,by omega⟩
 refine Waa (kOf_ex n.1 (by omega) hs) waa λqq⟨hw,hc⟩=>?_;obtain⟨a,w',u⟩:=qq;dsimp only at hw hc;obtain⟨w,Y⟩:∃w,(qm (Vv n.1) 256).length=w:=⟨_,rfl⟩
 have c7:w<=256:=by rw[<- Y];exact zb8 _ _
 have a2:ClsN a w:=Y▸znj (zgn n.1) hc;rw[Y]at hw⊢;subst hw;obtain⟨R,I⟩:∃R,zly n a w (M:Int) 202 0 [[]] [] []=R:=⟨_,rfl⟩
 refine Tt.mono (Q:=λr=>r=jeb a (w:Int) R) ?_ λr o=>⟨a,hc,by rw[I];exact o⟩
 have p:jeb a (w:Int) (some none)=((⟨List.replicate 256 0,wch⟩,0,[],[],()),0,16,()):=rfl;generalize (⟨List.replicate 256 0,wch⟩:Arr 256 Int)=Z at p⊢;refine Tt.loop (λm s=>∃(q:Nat)(next:List (List Int))(label:List Int)(d:List (List Int))(y:Wh),m=202-q/\s=((M:Int),(q:Int),n,Z,0,a,(w:Int),[],[],next,label,d,y)/\q<=d.length/\d.length<=M/\next.length=q/\label.length=q/\(∀x∈d,RN n.1.length x)/\WhOk n.1.length y d/\R=zly n a w (M:Int) (202-q) q d next label) 202 waa ⟨0,_,_,_,_,rfl,rfl,by omega,by simp;omega,rfl,rfl,λx hx=>by rw[wci.1 hx];exact RN.nil _,WhOk.nil _,I.symm⟩ λm s⟨q,next,label,d,y,hm,e,hi,hl,i3,i4,hf,b1,X⟩ nx B=>?_;subst e;dsimp only;have g:zly n a w (M:Int) (202-q) q d next label=if q<d.length then(match zk4 (spN n a d q) (M:Int) (List.range w) d []with
   |none=>some none
   |some (W,row)=>zly n a w (M:Int) (202-(q+1)) (q+1) W (next++[row]) (label++[zkz n (d.getD q [])]))else some (some (d,next,label)):=by
  rw[show 202-q=(202-(q+1))+1 by omega];rfl
 refine wab (λc=>?_) (λc=>Tt.pure ?_)
 rotate_left
 ·have c:=wce c;rw[X,g,if_neg (by omega)];rfl
 have c:=wcd c;have K:q<d.length:=by omega
 rw[if_pos K]at g;refine wac _ (mkN (n:=w) (by omega) (by omega)) ?_;simp only[wch];refine Tt.loop (λm s=>∃(c:Nat)(row:List Int)(b:List (List Int))(y:Wh),m=w-c/\c<=w/\s=((M:Int),(q:Int),(w:Int),(c:Int),n,Z,0,a,(w:Int),row,[],[],next,label,b,y)/\row.length=w/\b.length<=M/\q<b.length/\(∀x∈b,RN n.1.length x)/\WhOk n.1.length y b/\b.getD q []=d.getD q []/\zk4 (spN n a d q) (M:Int) (List.range w) d []=zk4 (spN n a d q) (M:Int) ((List.range w).drop c) b (row.take c)) w waa.fst ⟨0,_,_,_,by omega,by omega,rfl,by simp,hl,K,hf,b1,rfl,rfl⟩ λm s⟨c,row,b,y,hm,b8,e,j1,j2,k,D,j5,j6,E⟩ ny a5=>?_;subst e;dsimp only;refine wab (λH=>?_) (λH=>?_)
 ·have H:=wcd H;have l:c<w:=by omega
  have a4:(List.range w).drop c=c::(List.range w).drop (c+1):=by
   rw[wc0 (by simpa using l)];simp
  have f:zk4 (spN n a d q) (M:Int) ((List.range w).drop c) b (row.take c)=if(M:Int)<((Jk b (spN n a d q c)).2.length:Int)then none else zk4 (spN n a d q) (M:Int) ((List.range w).drop (c+1)) (Jk b (spN n a d q c)).2 (row.take c++[(Jk b (spN n a d q c)).1]):=by
   rw[a4];rfl
  have A:b.getD q []=b[q]:=by simp[List.getD,k]
  have a7:=(D _ (wcm k)).len;refine Waa (jb2 a a2 c l) waa.fst.fst λbs a0=>wac _ a0 ?_;refine Tt.J (DBX n Z a M q w c next label row b (spN n a d q c)) (λnz L=>?_) λs⟨v,zj0,T,e,P,F,G,S⟩=>?_
  ·refine wab (λi=>?_) (λi=>?_)
   ·have i:=wcd i;have a6:q=0:=by omega
    have C:spN n a d q c=zby n (zhd a c):=by unfold spN zik;rw[if_pos a6]
    refine Tt.J (DBX n Z a M q w c next label row b (spN n a d q c)) (λnu j=>?_) λs⟨v,zj0,T,e,P,F,G,S⟩=>?_
    ·refine Waa (jjb n V hz (zhd a c) (zuo a c)) waa.fst.fst λr o=>?_;subst o;rw[C]at j;exact jju waa.fst.fst (by omega) l (by omega) j1 j2 j5 k D j (z0u _ _)
    ·subst e;exact L _ ⟨_,_,_,rfl,P,F,G,S⟩
   ·have i:=wce i;have C:spN n a d q c=zgs n b[q] (zhd a c):=by unfold spN zik;rw[if_neg (by omega),<- j6,A]
    refine Tt.J (DBX n Z a M q w c next label row b (spN n a d q c)) (λnu j=>?_) λs⟨v,zj0,T,e,P,F,G,S⟩=>?_
    ·refine wac _ (qv k) (wac _ (atN k) ?_);refine Waa (jnj n V hz b[q] (by omega) (zhd a c) (zuo a c)) waa.fst.fst λr o=>?_;subst o;rw[C]at j;exact jju waa.fst.fst (by omega) l (by omega) j1 j2 j5 k D j (z70 _ _ _)
    ·subst e;exact L _ ⟨_,_,_,rfl,P,F,G,S⟩
  ·subst e;dsimp only;have O:RN n.1.length (spN n a d q c):=jia n a d q c;generalize spN n a d q c=U at O F G f;have hp:=ziw b U;obtain⟨tl,a8⟩:=z76 b U;subst G;refine wab (λi=>Tt.pure ?_) λi=>wad ?_
   ·rw[X,g,E,f,if_pos (wcd i)];exact p.symm
   have i:=wce i;rw[if_neg i,<- F]at f;rw[wI (by omega) (by omega)];refine a5 (w-(c+1)) _ (by omega) ⟨c+1,_,_,_,rfl,by omega,rfl,P,by omega,by omega,λx hx=>?_,S,?_,E.trans f⟩
   ·rcases z73 hx with h|h
    ·exact D x h
    ·rw[h];exact O
   ·rw[<- j6,a8];simp only[wdg];rw[wcr k]
 ·have H:=wce H;have b9:c=w:=by omega
  have a3:(List.range w).drop c=[]:=wdu (by simp;omega);have a9:row.take c=row:=wd4 (by omega);rw[a3,a9]at E;have E:zk4 (spN n a d q) (M:Int) (List.range w) d []=some (b,row):=E;rw[E]at g;dsimp only at g;have A:b.getD q []=b[q]:=by simp[List.getD,k]
  have a7:=(D _ (wcm k)).len;refine wac _ (yf (by simp;omega) (by omega)) (wac _ (qv k) (wac _ (atN k) ?_));refine Waa (jhb n V hz b[q] (by omega)) waa.fst.fst λt ht=>?_;subst ht;refine wac _ (yf (by simp;omega) (by omega)) (wad ?_);rw[wI (by omega) (by omega)];exact(B (202-(q+1)) _ (by omega) ⟨q+1,next++[row],label++[zkz n b[q]],b,y,rfl,rfl,by omega,j2,by simp[i3],by simp[i4],D,j5,by rw[X,g,<- j6,A]⟩).fst
theorem ClsAt.one{E:Nat->Nat->Bool}{a b:Arr 256 Int}(c:ClsAt E a 256)(d:ClsAt E b 256):a=b:=
 congrArg (·.1) (Of_one (n:=0) (x:=(a,0,())) (y:=(b,0,())) ⟨rfl,c⟩ ⟨rfl,d⟩)
end
end Go.Proofs.YtigdmmgklieofaaGreat.T
namespace Go.Proofs.YtigdmmgklieofaaGreat
noncomputable section
open _root_.Go.Proofs.Tryz
set_option maxRecDepth 100000
set_option maxHeartbeats 8000000
set_option linter.unusedVariables false
set_option linter.unusedSimpArgs false
open Go
structure Rx where
 kind:Int
 s0:Int
 s1:Int
 s2:Int
 s3:Int
deriving DecidableEq
def jjr(a b c d e f g h:Int):Bool:=a == e && (b == f && (c == g && d == h))
def ofK(k:Int):Int:=if k=1\/k=2 then 0 else if k=3\/k=4 then 2 else if k=5\/k=6\/k=7 then 1 else -1
def Rx.bare(x:Rx):Bool:=jjr x.s0 x.s1 x.s2 x.s3 0 0 0 0
def zbo:List Rx->Int->Int
 |[],q=>if q=1 then 0 else 3
 |x::r,q=>if ofK x.kind<0\/(x.kind≠1/\x.bare=false)then 1 else if q<ofK x.kind then 3 else zbo r (q-ofK x.kind+1)
def z9u(l:List Rx):Int:=if 512<l.length then 4 else zbo l 0
inductive E where
 |set (s0 s1 s2 s3:Int)
 |empty
 |cat (a b:E)
 |alt (a b:E)
 |star (a:E)
 |plus (a:E)
 |opt (a:E)
def Jh(k:Int):Rx:=⟨k,0,0,0,0⟩
def post:E->List Rx
 |.set c d e f=>[⟨1,c,d,e,f⟩]
 |.empty=>[Jh 2]
 |.cat a b=>post a++(post b++[Jh 3])
 |.alt a b=>post a++(post b++[Jh 4])
 |.star a=>post a++[Jh 5]
 |.plus a=>post a++[Jh 6]
 |.opt a=>post a++[Jh 7]
theorem zgz(e:E):0<(post e).length:=by cases e<;>simp[post]<;>omega
def flat(st:List E):List Rx:=(st.reverse).flatMap post
theorem Ji(e:E)(st:List E):flat (e::st)=flat st++post e:=by simp[flat]
theorem jng(x:Rx)(h:x.bare=true):x=Jh x.kind:=by
 obtain⟨k,a,b,c,d⟩:=x;simp[Rx.bare,jjr]at h;simp[Jh,h]
theorem jjo(l:List Rx):∀(st:List E),zbo l st.length=0->∃e,flat st++l=post e:=by
 induction l with
 |nil=>
  intro st h;rw[zbo]at h;split at h
  ·rename_i j
   match st,j with
   |[e],_=>exact⟨e,by simp[flat]⟩
   |[],j=>simp at j
   |_::_::_,j=>simp at j;omega
  ·omega
 |cons x r k=>
  intro st h;rw[zbo]at h;split at h
  ·omega
  ·rename_i j;split at h
   ·omega
   ·rename_i c;have d:x.kind=1\/x.kind=2\/x.kind=3\/x.kind=4\/x.kind=5\/x.kind=6\/x.kind=7:=by
     have:¬ofK x.kind<0:=λh=>j (Or.inl h);unfold ofK at this;split at this
     ·omega
     ·split at this
      ·omega
      ·split at this<;>omega
    have m:x.kind≠1->x=Jh x.kind:=λo=>jng x (by
     cases n:x.bare
     ·exact absurd (Or.inr ⟨o,n⟩) j
     ·rfl)
    rcases d with d|d|d|d|d|d|d
    ·have f:x=⟨1,x.s0,x.s1,x.s2,x.s3⟩:=by rw[<- d]
     have i:ofK x.kind=0:=by rw[d];rfl
     obtain⟨e,g⟩:=k (.set x.s0 x.s1 x.s2 x.s3::st) (by rw[i]at h;simpa using h);exact⟨e,by rw[<- g,Ji,f];simp[post]⟩
    ·have f:=m (by omega);rw[d]at f;have i:ofK x.kind=0:=by rw[d];rfl
     obtain⟨e,g⟩:=k (.empty::st) (by rw[i]at h;simpa using h);exact⟨e,by rw[<- g,Ji,f];simp[post]⟩
    ·have f:=m (by omega);rw[d]at f;have i:ofK x.kind=2:=by rw[d];rfl
     rw[i]at h c
     match st,h,c with
     |b::a::st,h,_=>
      obtain⟨e,g⟩:=k (.cat a b::st) (by rw[<- h];congr 1;simp;omega);exact⟨e,by rw[<- g,Ji,Ji,Ji,f];simp[post]⟩
     |[],_,c=>simp at c
     |[_],_,c=>simp at c
    ·have f:=m (by omega);rw[d]at f;have i:ofK x.kind=2:=by rw[d];rfl
     rw[i]at h c
     match st,h,c with
     |b::a::st,h,_=>
      obtain⟨e,g⟩:=k (.alt a b::st) (by rw[<- h];congr 1;simp;omega);exact⟨e,by rw[<- g,Ji,Ji,Ji,f];simp[post]⟩
     |[],_,c=>simp at c
     |[_],_,c=>simp at c
    ·have f:=m (by omega);rw[d]at f;have i:ofK x.kind=1:=by rw[d];rfl
     rw[i]at h c
     match st,h,c with
     |a::st,h,_=>
      obtain⟨e,g⟩:=k (.star a::st) (by rw[<- h];congr 1;simp);exact⟨e,by rw[<- g,Ji,Ji,f];simp[post]⟩
     |[],_,c=>simp at c
    ·have f:=m (by omega);rw[d]at f;have i:ofK x.kind=1:=by rw[d];rfl
     rw[i]at h c
     match st,h,c with
     |a::st,h,_=>
      obtain⟨e,g⟩:=k (.plus a::st) (by rw[<- h];congr 1;simp);exact⟨e,by rw[<- g,Ji,Ji,f];simp[post]⟩
     |[],_,c=>simp at c
    ·have f:=m (by omega);rw[d]at f;have i:ofK x.kind=1:=by rw[d];rfl
     rw[i]at h c
     match st,h,c with
     |a::st,h,_=>
      obtain⟨e,g⟩:=k (.opt a::st) (by rw[<- h];congr 1;simp);exact⟨e,by rw[<- g,Ji,Ji,f];simp[post]⟩
     |[],_,c=>simp at c
theorem jmo(l:List Rx)(h:z9u l=0):l.length<=512/\∃e,l=post e:=by
 unfold z9u at h;split at h
 ·omega
 ·obtain⟨e,a⟩:=jjo l [] h;exact⟨by omega,e,by simpa [flat]using a⟩
def jx:E->Nat
 |.set ..=>1|.empty=>0|.cat a b=>jx a+jx b|.alt a b=>jx a+jx b|.star a=>jx a|.plus a=>jx a|.opt a=>jx a
def vm:E->Bool
 |.set ..=>false|.empty=>true|.cat a b=>vm a && vm b|.alt a b=>vm a ||vm b|.star _=>true|.plus a=>vm a|.opt _=>true
def qj:E->Int->List Int
 |.set ..,n=>[n]|.empty,_=>[]
 |.cat a b,n=>qj a n++(if vm a then qj b (n+jx a)else [])
 |.alt a b,n=>qj a n++qj b (n+jx a)
 |.star a,n=>qj a n|.plus a,n=>qj a n|.opt a,n=>qj a n
def q8:E->Int->List Int
 |.set ..,n=>[n]|.empty,_=>[]
 |.cat a b,n=>(if vm b then q8 a n else [])++q8 b (n+jx a)
 |.alt a b,n=>q8 a n++q8 b (n+jx a)
 |.star a,n=>q8 a n|.plus a,n=>q8 a n|.opt a,n=>q8 a n
def Zk:E->Int->Int->Int->Prop
 |.set ..,_,_,_=>False|.empty,_,_,_=>False
 |.cat a b,n,i,j=>Zk a n i j\/Zk b (n+jx a) i j\/(i∈q8 a n/\j∈qj b (n+jx a))
 |.alt a b,n,i,j=>Zk a n i j\/Zk b (n+jx a) i j
 |.star a,n,i,j=>Zk a n i j\/(i∈q8 a n/\j∈qj a n)
 |.plus a,n,i,j=>Zk a n i j\/(i∈q8 a n/\j∈qj a n)
 |.opt a,n,i,j=>Zk a n i j
def zi3:E->List Rx
 |.set a b c d=>[⟨1,a,b,c,d⟩]|.empty=>[]|.cat a b=>zi3 a++zi3 b|.alt a b=>zi3 a++zi3 b|.star a=>zi3 a|.plus a=>zi3 a|.opt a=>zi3 a
theorem z2j(e:E):(zi3 e).length=jx e:=by
 induction e<;>simp_all [zi3,jx]
theorem zod(e:E):(post e).filter (λx=>x.kind == 1)=zi3 e:=by
 induction e<;>simp_all [zi3,post,Jh]
def zh5(l:List Int):Prop:=l.Pairwise (· < ·)
theorem zae{a b:List Int}{m:Int}(e:zh5 a)(f:zh5 b)(c:∀x∈a,x<m)(d:∀x∈b,m<=x):zh5 (a++b):=by
 unfold zh5;rw[wer];exact⟨e,f,λx g y h=>by have:=c x g;have:=d y h;omega⟩
theorem Qu(e:E):∀n:Int,zh5 (qj e n)/\∀x∈qj e n,n<=x/\x<n+jx e:=by
 induction e with
 |set=>intro n;exact⟨by simp[qj,zh5],by simp[qj,jx];omega⟩
 |empty=>intro n;exact⟨by simp[qj,zh5],by simp[qj]⟩
 |cat a b d f=>
  intro n;obtain⟨j,g⟩:=d n;obtain⟨k,h⟩:=f (n+jx a);refine⟨?_,?_⟩
  ·simp only[qj];split
   ·exact zae j k (λx c=>(g x c).2) (λx c=>(h x c).1)
   ·simpa using j
  ·intro x c;simp only[qj,wco]at c;simp only[jx];rcases c with c|c
   ·have:=g x c;omega
   ·split at c
    ·have:=h x c;omega
    ·cases c
 |alt a b d f=>
  intro n;obtain⟨j,g⟩:=d n;obtain⟨k,h⟩:=f (n+jx a);refine⟨zae j k (λx c=>(g x c).2) (λx c=>(h x c).1),?_⟩;intro x c;simp only[qj,wco]at c;simp only[jx];rcases c with c|c
  ·have:=g x c;omega
  ·have:=h x c;omega
 |star a i=>exact i
 |plus a i=>exact i
 |opt a i=>exact i
theorem zad(e:E):∀n:Int,zh5 (q8 e n)/\∀x∈q8 e n,n<=x/\x<n+jx e:=by
 induction e with
 |set=>intro n;exact⟨by simp[q8,zh5],by simp[q8,jx];omega⟩
 |empty=>intro n;exact⟨by simp[q8,zh5],by simp[q8]⟩
 |cat a b d f=>
  intro n;obtain⟨k,g⟩:=d n;obtain⟨j,h⟩:=f (n+jx a);refine⟨?_,?_⟩
  ·simp only[q8];split
   ·exact zae k j (λx c=>(g x c).2) (λx c=>(h x c).1)
   ·simpa using j
  ·intro x c;simp only[q8,wco]at c;simp only[jx];rcases c with c|c
   ·split at c
    ·have:=g x c;omega
    ·cases c
   ·have:=h x c;omega
 |alt a b d f=>
  intro n;obtain⟨k,g⟩:=d n;obtain⟨j,h⟩:=f (n+jx a);refine⟨zae k j (λx c=>(g x c).2) (λx c=>(h x c).1),?_⟩;intro x c;simp only[q8,wco]at c;simp only[jx];rcases c with c|c
  ·have:=g x c;omega
  ·have:=h x c;omega
 |star a i=>exact i
 |plus a i=>exact i
 |opt a i=>exact i
theorem jbg(e:E):∀n i j:Int,Zk e n i j->(n<=i/\i<n+jx e)/\n<=j/\j<n+jx e:=by
 induction e with
 |set=>intro n i j h;exact h.elim
 |empty=>intro n i j h;exact h.elim
 |cat a b c d=>
  intro n i j h;simp only[jx];rcases h with h|h|⟨h,f⟩
  ·have:=c n i j h;omega
  ·have:=d _ i j h;omega
  ·have:=(zad a n).2 i h;have:=(Qu b _).2 j f;omega
 |alt a b c d=>
  intro n i j h;simp only[jx];rcases h with h|h
  ·have:=c n i j h;omega
  ·have:=d _ i j h;omega
 |star a g=>
  intro n i j h;simp only[jx];rcases h with h|⟨h,f⟩
  ·have:=g n i j h;omega
  ·have:=(zad a n).2 i h;have:=(Qu a n).2 j f;omega
 |plus a g=>
  intro n i j h;simp only[jx];rcases h with h|⟨h,f⟩
  ·have:=g n i j h;omega
  ·have:=(zad a n).2 i h;have:=(Qu a n).2 j f;omega
 |opt a g=>exact g
def AtT(l:List Rx)(s:Nat)(e:E)(t:Nat):Prop:=∃a b,l=a++post e++b/\s=a.length/\t=s+(post e).length
def yi:E->Int|.set ..=>1|.empty=>2|.cat ..=>3|.alt ..=>4|.star _=>5|.plus _=>6|.opt _=>7
theorem wbf(e:E):AtT (post e) 0 e (post e).length:=⟨[],[],by simp,rfl,by simp⟩
theorem AtT.bound{l:List Rx}{s t:Nat}{e:E}(h:AtT l s e t):s<t/\t<=l.length:=by
 obtain⟨a,b,rfl,rfl,rfl⟩:=h;have:=zgz e;simp;omega
theorem jgb(e:E):(post e).getLast?=some (match e with|.set a b c d=>⟨1,a,b,c,d⟩|e=>Jh (yi e)):=by
 cases e<;>simp[post,yi]
theorem AtT.kind{l:List Rx}{s t:Nat}{e:E}(h:AtT l s e t)(j:Nat)(f:j<l.length)(g:j+1=t):l[j].kind=yi e:=by
 obtain⟨a,b,rfl,rfl,rfl⟩:=h;have i:=zgz e;have d:=jgb e;rw[List.getLast?_eq_getElem?]at d;have c:(a++post e++b)[j]?=(post e)[(post e).length-1]?:=by
  rw[wc6,wct (by omega),wcr (by omega)];congr 1;omega
 rw[d,wcf f,wdn]at c;rw[c];cases e<;>rfl
theorem AtT.cat{l:List Rx}{s t:Nat}{a b:E}(h:AtT l s (.cat a b) t):∃m,AtT l s a m/\AtT l m b (t-1)/\s<m/\m<t-1:=by
 obtain⟨c,d,rfl,rfl,rfl⟩:=h;have:=zgz a;have:=zgz b;refine⟨c.length+(post a).length,⟨c,post b++[Jh 3]++d,by simp[post],rfl,rfl⟩,⟨c++post a,[Jh 3]++d,by simp[post],by simp,by simp[post];omega⟩,by omega,by simp[post];omega⟩
theorem AtT.alt{l:List Rx}{s t:Nat}{a b:E}(h:AtT l s (.alt a b) t):∃m,AtT l s a m/\AtT l m b (t-1)/\s<m/\m<t-1:=by
 obtain⟨c,d,rfl,rfl,rfl⟩:=h;have:=zgz a;have:=zgz b;refine⟨c.length+(post a).length,⟨c,post b++[Jh 4]++d,by simp[post],rfl,rfl⟩,⟨c++post a,[Jh 4]++d,by simp[post],by simp,by simp[post];omega⟩,by omega,by simp[post];omega⟩
theorem AtT.star{l:List Rx}{s t:Nat}{a:E}(h:AtT l s (.star a) t):AtT l s a (t-1):=by
 obtain⟨b,c,rfl,rfl,rfl⟩:=h;exact⟨b,[Jh 5]++c,by simp[post],rfl,by simp[post]⟩
theorem AtT.plus{l:List Rx}{s t:Nat}{a:E}(h:AtT l s (.plus a) t):AtT l s a (t-1):=by
 obtain⟨b,c,rfl,rfl,rfl⟩:=h;exact⟨b,[Jh 6]++c,by simp[post],rfl,by simp[post]⟩
theorem AtT.opt{l:List Rx}{s t:Nat}{a:E}(h:AtT l s (.opt a) t):AtT l s a (t-1):=by
 obtain⟨b,c,rfl,rfl,rfl⟩:=h;exact⟨b,[Jh 7]++c,by simp[post],rfl,by simp[post]⟩
def numL(l:List Rx)(i:Nat):Nat:=((l.take i).filter λx=>x.kind == 1).length
theorem jge(l:List Rx)(k:Nat)(h:k<l.length):numL l (k+1)=numL l k+if l[k].kind=1 then 1 else 0:=by
 unfold numL;rw[wcn h,we7,wcu];congr 1;by_cases a:l[k].kind=1<;>simp[a]
theorem jcv(l:List Rx)(k:Nat):numL l k<=k:=by
 unfold numL;exact wdk (wen _ _) (by rw[wdl];omega)
theorem AtT.num{l:List Rx}{s t:Nat}{e:E}(h:AtT l s e t):numL l t=numL l s+jx e:=by
 obtain⟨a,b,rfl,rfl,rfl⟩:=h;unfold numL;rw[<- z2j,<- zod,wc6,List.take_left,<- wc6,wfh (by simp),we7,wcu]
def Yo:E->Int->List (E×Int)
 |.set a b c d,n=>[(.set a b c d,n)]
 |.empty,n=>[(.empty,n)]
 |.cat a b,n=>Yo a n++(Yo b (n+jx a)++[(.cat a b,n)])
 |.alt a b,n=>Yo a n++(Yo b (n+jx a)++[(.alt a b,n)])
 |.star a,n=>Yo a n++[(.star a,n)]
 |.plus a,n=>Yo a n++[(.plus a,n)]
 |.opt a,n=>Yo a n++[(.opt a,n)]
theorem yh(e:E):∀n,(Yo e n).length=(post e).length:=by
 induction e<;>intro n<;>simp_all [Yo,post]
def Y5:E->Int->Int->Int->Bool
 |.cat x y,n,i,j=>decide (i∈q8 x n) && decide (j∈qj y (n+jx x))
 |.star x,n,i,j=>decide (i∈q8 x n) && decide (j∈qj x n)
 |.plus x,n,i,j=>decide (i∈q8 x n) && decide (j∈qj x n)
 |_,_,_,_=>false
def ze7(e:E)(n i j:Int):Bool:=(Yo e n).any λx=>Y5 x.1 x.2 i j
theorem jey(a b:E)(n i j:Int):Y5 (.cat a b) n i j=true↔(i∈q8 a n/\j∈qj b (n+jx a)):=by simp[Y5]
theorem jau(a:E)(n i j:Int):Y5 (.star a) n i j=true↔(i∈q8 a n/\j∈qj a n):=by simp[Y5]
theorem z9w(a:E)(n i j:Int):Y5 (.plus a) n i j=true↔(i∈q8 a n/\j∈qj a n):=by simp[Y5]
theorem zix{α:Type}(l:List α)(x:α)(p:α->Bool):(l++[x]).any p=true↔l.any p=true\/p x=true:=by simp
theorem jck{α:Type}(l m:List α)(p:α->Bool):(l++m).any p=true↔l.any p=true\/m.any p=true:=by simp
theorem z8g(e:E):∀n i j,ze7 e n i j=true↔Zk e n i j:=by
 induction e with
 |set=>intro n i j;simp[ze7,Yo,Y5,Zk]
 |empty=>intro n i j;simp[ze7,Yo,Y5,Zk]
 |cat a b c d=>
  intro n i j;unfold ze7 Yo Zk;rw[jck,zix,jey];exact or_congr (c n i j) (or_congr (d _ i j) Iff.rfl)
 |alt a b c d=>
  intro n i j;unfold ze7 Yo Zk;rw[jck,zix];refine or_congr (c n i j) ?_;rw[show Y5 (E.alt a b) n i j=false from rfl,wdp,or_false];exact d _ i j
 |star a c=>
  intro n i j;unfold ze7 Yo Zk;rw[zix,jau];exact or_congr (c n i j) Iff.rfl
 |plus a c=>
  intro n i j;unfold ze7 Yo Zk;rw[zix,z9w];exact or_congr (c n i j) Iff.rfl
 |opt a c=>
  intro n i j;unfold ze7 Yo Zk;rw[zix,show Y5 (E.opt a) n i j=false from rfl,wdp,or_false];exact c n i j
theorem joh(l:List Rx)(e:E):∀(s t:Nat),AtT l s e t->∀(k:Nat)(x:E×Int),(Yo e (numL l s))[k]?=some x->∃r,AtT l r x.1 (s+k+1)/\(numL l r:Int)=x.2:=by
 induction e with
 |set a b c d=>
  intro s t h k x f;have w:=h;obtain⟨D,F,_,rfl,rfl⟩:=w
  match k,f with
  |0,f=>simp[Yo]at f;subst f;exact⟨_,by simpa [post]using h,rfl⟩
  |k+1,f=>simp[Yo]at f
 |empty=>
  intro s t h k x f;have w:=h;obtain⟨D,F,_,rfl,rfl⟩:=w
  match k,f with
  |0,f=>simp[Yo]at f;subst f;exact⟨_,by simpa [post]using h,rfl⟩
  |k+1,f=>simp[Yo]at f
 |cat a b g p=>
  intro s t h k x f;obtain⟨m,i,o,C,A⟩:=h.cat;have B:=i.num;have v:(post a).length=m-s:=by obtain⟨_,_,_,rfl,rfl⟩:=i;omega
  have G:(post b).length=t-1-m:=by obtain⟨_,_,_,j,n⟩:=o;omega
  simp only[Yo]at f;by_cases j:k<(post a).length
  ·rw[wcr (by rw[yh];exact j)]at f;exact g s m i k x f
  ·rw[wct (by rw[yh];omega),yh]at f;by_cases n:k-(post a).length<(post b).length
   ·rw[wcr (by rw[yh];exact n)]at f;obtain⟨r,y,z⟩:=p m (t-1) o _ x (by rw[B];simpa using f);exact⟨r,by rw[show s+k+1=m+(k-(post a).length)+1 from by omega];exact y,z⟩
   ·rw[wct (by rw[yh];omega),yh]at f
    match u:k-(post a).length-(post b).length,f with
    |0,f=>simp at f;subst f;exact⟨s,by rw[show s+k+1=t from by omega];exact h,rfl⟩
    |q+1,f=>simp at f
 |alt a b g p=>
  intro s t h k x f;obtain⟨m,i,o,C,A⟩:=h.alt;have B:=i.num;have v:(post a).length=m-s:=by obtain⟨_,_,_,rfl,rfl⟩:=i;omega
  have G:(post b).length=t-1-m:=by obtain⟨_,_,_,j,n⟩:=o;omega
  simp only[Yo]at f;by_cases j:k<(post a).length
  ·rw[wcr (by rw[yh];exact j)]at f;exact g s m i k x f
  ·rw[wct (by rw[yh];omega),yh]at f;by_cases n:k-(post a).length<(post b).length
   ·rw[wcr (by rw[yh];exact n)]at f;obtain⟨r,y,z⟩:=p m (t-1) o _ x (by rw[B];simpa using f);exact⟨r,by rw[show s+k+1=m+(k-(post a).length)+1 from by omega];exact y,z⟩
   ·rw[wct (by rw[yh];omega),yh]at f
    match u:k-(post a).length-(post b).length,f with
    |0,f=>simp at f;subst f;exact⟨s,by rw[show s+k+1=t from by omega];exact h,rfl⟩
    |q+1,f=>simp at f
 |star a g=>
  intro s t h k x f;have i:=h.star;have o:=h.bound;have v:(post a).length=t-1-s:=by obtain⟨_,_,_,j,n⟩:=i;omega
  simp only[Yo]at f;by_cases j:k<(post a).length
  ·rw[wcr (by rw[yh];exact j)]at f;exact g s (t-1) i k x f
  ·rw[wct (by rw[yh];omega),yh]at f
   match u:k-(post a).length,f with
   |0,f=>simp at f;subst f;exact⟨s,by rw[show s+k+1=t from by omega];exact h,rfl⟩
   |q+1,f=>simp at f
 |plus a g=>
  intro s t h k x f;have i:=h.plus;have o:=h.bound;have v:(post a).length=t-1-s:=by obtain⟨_,_,_,j,n⟩:=i;omega
  simp only[Yo]at f;by_cases j:k<(post a).length
  ·rw[wcr (by rw[yh];exact j)]at f;exact g s (t-1) i k x f
  ·rw[wct (by rw[yh];omega),yh]at f
   match u:k-(post a).length,f with
   |0,f=>simp at f;subst f;exact⟨s,by rw[show s+k+1=t from by omega];exact h,rfl⟩
   |q+1,f=>simp at f
 |opt a g=>
  intro s t h k x f;have i:=h.opt;have o:=h.bound;have v:(post a).length=t-1-s:=by obtain⟨_,_,_,j,n⟩:=i;omega
  simp only[Yo]at f;by_cases j:k<(post a).length
  ·rw[wcr (by rw[yh];exact j)]at f;exact g s (t-1) i k x f
  ·rw[wct (by rw[yh];omega),yh]at f
   match u:k-(post a).length,f with
   |0,f=>simp at f;subst f;exact⟨s,by rw[show s+k+1=t from by omega];exact h,rfl⟩
   |q+1,f=>simp at f
end
end Go.Proofs.YtigdmmgklieofaaGreat
namespace Go.Proofs.YtigdmmgklieofaaGreat.T
noncomputable section
open _root_.Go.Proofs.Tryz
set_option maxRecDepth 100000
set_option maxHeartbeats 8000000
set_option linter.unusedVariables false
set_option linter.unusedSimpArgs false
open Go Go.RowKit L
def qt(x:jf):Rx:=⟨x.1,x.2.1.l.getD 0 0,x.2.1.l.getD 1 0,x.2.1.l.getD 2 0,x.2.1.l.getD 3 0⟩
theorem jne{c:Int}{n:Nat}(h:arK c=some n):ofK c=n:=by
 unfold arK at h;unfold ofK;by_cases a:c=3\/c=4
 ·rw[if_pos a]at h;cases h;rw[if_neg (by omega),if_pos a];rfl
 rw[if_neg a]at h;by_cases b:c=5\/c=6\/c=7
 ·rw[if_pos b]at h;cases h;rw[if_neg (by omega),if_neg a,if_pos b];rfl
 rw[if_neg b]at h;by_cases d:c=1\/c=2
 ·rw[if_pos d]at h;cases h;rw[if_pos d];rfl
 ·rw[if_neg d]at h;cases h
theorem jdm{x:jf}(h:¬(x.1≠1/\x.2.1.l≠List.replicate 4 0))(a:x.1≠1):qt x=Jh x.1:=by
 have:x.2.1.l=List.replicate 4 0:=weu λc=>h ⟨a,c⟩;unfold qt Jh;rw[this];rfl
theorem z7o:∀(l:List jf)(d:Nat),Z5 l d=0->zbo (l.map qt) (d:Int)=0
 |[],d,h=>by
  unfold Z5 at h;by_cases e:d=1
  ·subst e;rfl
  ·rw[if_neg e]at h;cases h
 |x::l,d,h=>by
  unfold Z5 at h;cases a:arK x.1 with
  |none=>rw[a]at h;cases h
  |some n=>
   rw[a]at h;dsimp only at h;split at h
   ·cases h
   ·split at h
    ·cases h
    ·rename_i g k;have i:=jne a;have j:=z7o l _ h;rw[wc4,zbo];have f:(qt x).kind=x.1:=rfl;rw[f,i,if_neg,if_neg (by omega)]
     ·rw[<- j];congr 1;omega
     ·rintro(b|⟨b,c⟩)
      ·omega
      ·rw[jdm g b]at c;simp[Jh,Rx.bare,jjr]at c
theorem jog{l:List jf}(h:Vx l=0):l.length<=512/\∃e,l.map qt=post e:=by
 have a:=Qx h;refine⟨a.2,?_⟩;unfold Vx at h;rw[if_neg (by have:=a.2;omega)]at h;exact(jmo _ (by unfold z9u;rw[if_neg (by have:=a.2;simp;omega)];exact z7o l 0 h)).2
def yr(l:List jf):List (Arr 4 Int):=(l.filter λx=>decide (x.1=1)).map λx=>x.2.1
theorem zyl(l:List jf)(x:jf):yr (l++[x])=yr l++if x.1=1 then [x.2.1]else []:=by
 unfold yr;by_cases h:x.1=1<;>simp[h]
theorem z7p(l:List jf):((l.map qt).filter λx=>x.kind == 1).length=(yr l).length:=by
 unfold yr;rw[List.filter_map,wcv,wcv];congr 1
theorem jeu{l:List jf}{e:E}(h:l.map qt=post e):(yr l).length=jx e:=by
 rw[<- z7p,h,zod,z2j]
def z82(st:List E)(x:Rx):List E:=
 if x.kind=1 then .set x.s0 x.s1 x.s2 x.s3::st else if x.kind=2 then .empty::st else match st with
 |[]=>[]
 |b::r=>if x.kind=5 then .star b::r else if x.kind=6 then .plus b::r else if x.kind=7 then .opt b::r else match r with
  |[]=>[]
  |a::r=>if x.kind=3 then .cat a b::r else .alt a b::r
theorem z2i(e:E):∀st,(post e).foldl z82 st=e::st:=by
 induction e with
 |set=>intro st;simp[post,z82]
 |empty=>intro st;simp[post,z82,Jh]
 |cat a b c d=>intro st;simp[post,wej,c,d,z82,Jh]
 |alt a b c d=>intro st;simp[post,wej,c,d,z82,Jh]
 |star a f=>intro st;simp[post,wej,f,z82,Jh]
 |plus a f=>intro st;simp[post,wej,f,z82,Jh]
 |opt a f=>intro st;simp[post,wej,f,z82,Jh]
theorem jkq{a b:E}(h:post a=post b):a=b:=by
 have c:=z2i a [];rw[h,z2i b []]at c;exact(List.cons.inj c).1.symm
open Classical in
def ql(l:List jf):E:=if h:∃e,l.map qt=post e then h.choose else .empty
theorem z6h{l:List jf}{e:E}(h:l.map qt=post e):ql l=e:=by
 have a:∃e,l.map qt=post e:=⟨e,h⟩
 unfold ql;rw[dif_pos a];exact jkq (a.choose_spec.symm.trans h)
theorem zjo{l:List jf}(h:Vx l=0):l.map qt=post (ql l):=by
 obtain⟨e,a⟩:=(jog h).2;rw[z6h a];exact a
def qw:List E->Nat
 |[]=>0
 |e::r=>jx e+qw r
theorem yc:∀(a b:List E),qw (a++b)=qw a+qw b
 |[],b=>by simp[qw]
 |e::a,b=>by simp[qw,yc a b];omega
def zo(e:E)(n:Int):qy:=((qj e n,q8 e n,vm e,()),(jx e:Int),())
def z8:List E->Int->List qy
 |[],_=>[]
 |e::r,n=>zo e n::z8 r (n+jx e)
theorem Z1:∀(a b:List E)(n:Int),z8 (a++b) n=z8 a n++z8 b (n+qw a)
 |[],b,n=>by simp[z8,qw]
 |e::a,b,n=>by
  simp only[we4,z8,Z1 a b,qw,wfc];rw[show n+(jx e:Int)+qw a=n+(jx e+qw a) by omega]
theorem zb1:∀(a:List E)(n:Int),(z8 a n).length=a.length
 |[],n=>rfl
 |e::a,n=>by simp[z8,zb1 a]
def znb:List E->Int->Int->Int->Prop
 |[],_,_,_=>False
 |e::r,n,i,j=>Zk e n i j\/znb r (n+jx e) i j
theorem zc6:∀(a b:List E)(n i j:Int),znb (a++b) n i j↔znb a n i j\/znb b (n+qw a) i j
 |[],b,n,i,j=>by simp[znb,qw]
 |e::a,b,n,i,j=>by
  simp only[we4,znb,zc6 a b,qw,wfc];rw[show n+(jx e:Int)+qw a=n+(jx e+qw a) by omega,or_assoc]
theorem zcs(e:E)(n i j:Int):znb [e] n i j↔Zk e n i j:=by simp[znb]
theorem z44:∀(a:List E)(n i j:Int),znb a n i j->(n<=i/\i<n+qw a)/\n<=j/\j<n+qw a
 |[],n,i,j,h=>h.elim
 |e::a,n,i,j,h=>by
  simp only[qw];rcases h with h|h
  ·have:=jbg e n i j h;omega
  ·have:=z44 a _ i j h;omega
def FolOk(fol:List (List Int))(P:Int->Int->Prop):Prop:=∀(i:Nat)(l:List Int),fol[i]?=some l->jy l/\∀j,j∈l↔P i j
theorem FolOk.iff{fol:List (List Int)}{P Q:Int->Int->Prop}(h:FolOk fol P)(b:∀i j,P i j↔Q i j):FolOk fol Q:=λi l a=>⟨(h i l a).1,λj=>((h i l a).2 j).trans (b i j)⟩
def zjm(a:List E):List Rx:=a.flatMap post
theorem z1y(a b:List E):zjm (a++b)=zjm a++zjm b:=by simp[zjm]
theorem zpj(a:E):zjm [a]=post a:=by simp[zjm]
theorem zcz(e:E)(n m:Nat)(h:n+jx e<=m):RN m (qj e n):=⟨(Qu e n).1,λx a=>by have:=(Qu e n).2 x a;omega⟩
theorem zh1(e:E)(n m:Nat)(h:n+jx e<=m):RN m (q8 e n):=⟨(zad e n).1,λx a=>by have:=(zad e n).2 x a;omega⟩
theorem jk4{u a b:List Int}{m:Int}(g:jy u)(hm:∀x,x∈u↔x∈a\/x∈b)(e:zh5 a)(f:zh5 b)(c:∀x∈a,x<m)(d:∀x∈b,m<=x):u=a++b:=
 z6f g (zae e f c d) λx=>by rw[hm,wco]
theorem z1u{u:List Int}{a b:E}{n:Int}(d:jy u)(hm:∀x,x∈u↔x∈qj a n\/x∈qj b (n+jx a)):u=qj a n++qj b (n+jx a):=
 jk4 (m:=n+jx a) d hm (Qu a n).1 (Qu b _).1 (λx c=>((Qu a n).2 x c).2) λx c=>((Qu b _).2 x c).1
theorem z78{u:List Int}{a b:E}{n:Int}(d:jy u)(hm:∀x,x∈u↔x∈q8 a n\/x∈q8 b (n+jx a)):u=q8 a n++q8 b (n+jx a):=
 jk4 (m:=n+jx a) d hm (zad a n).1 (zad b _).1 (λx c=>((zad a n).2 x c).2) λx c=>((zad b _).2 x c).1
def zvm(e:E)(i:Int):List Int:=((List.range (jx e)).map λ(b:Nat)=>(b:Int)).filter λb=>ze7 e 0 i b
theorem z1q(e:E)(i:Int):jy (zvm e i):=by
 unfold zvm;refine wfe List.filter_sublist ?_;rw[List.pairwise_map];exact List.pairwise_lt_range.imp λh=>by omega
theorem z8f(e:E)(i j:Int):j∈zvm e i↔Zk e 0 i j:=by
 simp only[zvm,wey,wcz,wef];constructor
 ·rintro⟨_,h⟩;exact(z8g e _ _ _).1 h
 ·intro h;have:=(jbg e _ _ _ h).2;exact⟨⟨j.toNat,by omega,by omega⟩,(z8g e _ _ _).2 h⟩
theorem jnn{e:E}{i:Int}{l:List Int}(a:jy l)(h:∀j,j∈l↔Zk e 0 i j):l=zvm e i:=z6f a (z1q e i) λj=>by rw[h,z8f]
theorem z35(e:E)(i:Int):RN (jx e) (zvm e i):=⟨z1q e i,λx a=>by have:=(jbg e _ _ _ ((z8f e i x).1 a)).2;omega⟩
end
end Go.Proofs.YtigdmmgklieofaaGreat.T
